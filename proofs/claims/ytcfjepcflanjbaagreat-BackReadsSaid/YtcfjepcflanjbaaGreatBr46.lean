/- The reference: the moves of a rule of letters. -/
import Derived.Test.YtcfjepcflanjbaaGreatBr02
import Derived.Test.YtcfjepcflanjbaaGreatBr45
namespace Go.Proofs.YtcfjepcflanjbaaGreat
open Go.RowKit Go.Lab Go.Shelf
set_option maxRecDepth 100000
theorem zq8f : SlT Tryz.prog 138 144 (.agg #[.slice none 0 0, .slice none 0 0, .int .i64 0, .bool false, .bool false, .int .i64 0, .bool false]) 7 80 := ⟨by kernel_rfl, by kernel_rfl, rfl, by decide⟩
theorem zq6a (t : Array Value) (ds : List Deferred) (h : t.size = 88) : ({ tmps := t, defers := ds } : Act) = { tmps := #[slot t 0, slot t 1, slot t 2, slot t 3, slot t 4, slot t 5, slot t 6, slot t 7, slot t 8, slot t 9, slot t 10, slot t 11, slot t 12, slot t 13, slot t 14, slot t 15, slot t 16, slot t 17, slot t 18, slot t 19, slot t 20, slot t 21, slot t 22, slot t 23, slot t 24, slot t 25, slot t 26, slot t 27, slot t 28, slot t 29, slot t 30, slot t 31, slot t 32, slot t 33, slot t 34, slot t 35, slot t 36, slot t 37, slot t 38, slot t 39, slot t 40, slot t 41, slot t 42, slot t 43, slot t 44, slot t 45, slot t 46, slot t 47, slot t 48, slot t 49, slot t 50, slot t 51, slot t 52, slot t 53, slot t 54, slot t 55, slot t 56, slot t 57, slot t 58, slot t 59, slot t 60, slot t 61, slot t 62, slot t 63, slot t 64, slot t 65, slot t 66, slot t 67, slot t 68, slot t 69, slot t 70, slot t 71, slot t 72, slot t 73, slot t 74, slot t 75, slot t 76, slot t 77, slot t 78, slot t 79, slot t 80, slot t 81, slot t 82, slot t 83, slot t 84, slot t 85, slot t 86, slot t 87], defers := ds } :=
  (congrArg (fun x => ({ tmps := x, defers := ds } : Act)) (zq1e h)).trans (by kernel_rfl)
def ltrMv (T : TabZ) (p : PlZ) (r : RuleZ) : List MvZ := if zq41 p r.wh = true then [] else
    [⟨headZ T p ++ r.cells, r.text, false, ⟨⟨p.st.lang, false, true⟩, needZ r.wh, false⟩⟩, ⟨headZ T p ++ (T.cp ++ r.cells), r.text, true, ⟨⟨p.st.lang, false, true⟩, needZ r.wh, false⟩⟩]
structure LtX (w : World) (V : TabV) (p : PlZ) (r : RuleZ) (uc : Value) (Bt Bp Br : Nat) (X : World) : Prop where
  low : Below w.heap.size w X
  bt : X.heap[Bt]? = some (.cells #[V.a, V.b, V.d, V.c, V.n, V.e, V.s] 29)
  bp : X.heap[Bp]? = some (.cells #[.int .i64 p.st.lang, .bool p.st.num, .bool p.st.word, .int .i64 (p.need : Nat), .bool p.sw] 141)
  br : X.heap[Br]? = some (.cells #[.string r.text, .int .i64 r.wh, uc] 59)
theorem LtX.below {w X X' : World} {V : TabV} {p : PlZ} {r : RuleZ} {uc : Value} {Bt Bp Br : Nat} (h : LtX w V p r uc Bt Bp Br X) (hb : Below X.heap.size X X') : LtX w V p r uc Bt Bp Br X' :=
  ⟨h.low.trans (hb.mono h.low.size), zq0 hb h.bt, zq0 hb h.bp, zq0 hb h.br⟩
def Lt1 (Bt Bp Br : Nat) (bl : Bool) (X : World) : Act -> World -> Prop := fun a W => a.tmps.size = 88 /\ a.defers = [] /\ slot a.tmps 3 = .pointer (some ⟨Bt, 0, none⟩) /\ slot a.tmps 4 = .pointer (some ⟨Bp, 0, none⟩) /\ slot a.tmps 5 = .pointer (some ⟨Br, 0, none⟩) /\ slot a.tmps 39 = .bool bl /\ W = X
def LtB (X0 : World) (Bo : Nat) (lg : Int) (nd : Int) (X : World) : Prop := Below X0.heap.size X0 X /\ X.heap[Bo]? = some (.cells #[.int .i64 lg, .bool false, .bool true, .int .i64 nd, .bool false] 141)
def Lt2 (X0 : World) (Bt Bp Br Bo : Nat) (lg nd : Int) : Act -> World -> Prop := fun a W => a.tmps.size = 88 /\ a.defers = [] /\ slot a.tmps 3 = .pointer (some ⟨Bt, 0, none⟩) /\ slot a.tmps 4 = .pointer (some ⟨Bp, 0, none⟩) /\ slot a.tmps 5 = .pointer (some ⟨Br, 0, none⟩) /\ slot a.tmps 7 = .pointer (some ⟨Bo, 0, none⟩) /\ LtB X0 Bo lg nd W
def LtL (Y : World) (lg : Int) (ms : List MvZ) (u8 u9 : Value) (W : World) : Prop := ∃ k : Nat, k <= 2 /\ u9 = .int .i64 (k : Nat) /\ MvR Y.heap.size 0 lg W u8 (ms.take k) /\ Below Y.heap.size Y W
def Lt3 (w0 : World) (Bt Bp Br Bo k : Nat) (v8 v10 : Value) (hd : List Int) : Act -> World -> Prop := fun a W => a.tmps.size = 88 /\ a.defers = [] /\ slot a.tmps 3 = .pointer (some ⟨Bt, 0, none⟩) /\ slot a.tmps 4 = .pointer (some ⟨Bp, 0, none⟩) /\ slot a.tmps 5 = .pointer (some ⟨Br, 0, none⟩) /\ slot a.tmps 7 = .pointer (some ⟨Bo, 0, none⟩) /\ slot a.tmps 8 = v8 /\ slot a.tmps 9 = .int .i64 (k : Nat) /\ slot a.tmps 10 = v10 /\ W.ownsRow w0.heap.size 5 1 v10 hd.length (byC hd) /\ Below w0.heap.size w0 W
set_option maxHeartbeats 4000000 in
theorem lettersR_any (V : TabV) (T : TabZ) (p : PlZ) (r : RuleZ) (uc : Value) (w : World) (hT : TabIn w V T) (huc : BysAt w uc r.cells) (hlen : T.en.length <= 1000 /\ T.cp.length <= 1000 /\ r.cells.length <= 1000 /\ r.text.size <= 1000) :
    Calls Tryz.prog 121 #[V.v, .agg #[.int .i64 p.st.lang, .bool p.st.num, .bool p.st.word, .int .i64 (p.need : Nat), .bool p.sw], .agg #[.string r.text, .int .i64 r.wh, uc]] w fun e w' => ∃ v, e = .returned v /\ MvR w.heap.size 0 p.st.lang w' v (ltrMv T p r) /\ Below w.heap.size w w' := by
  have HT := hidep hT
  have HUC := hidep huc
  have HLN := hidep hlen
  clear hT huc hlen
  go_enter Tryz.func121, Tryz.ntmps121
  go_upto_region 1 with (fail)
  obtain ⟨Bt, hBt⟩ : ∃ B, B = w.heap.size := ⟨_, rfl⟩
  obtain ⟨Bp, hBp⟩ : ∃ B, B = w.heap.size + 1 := ⟨_, rfl⟩
  obtain ⟨Br, hBr⟩ : ∃ B, B = w.heap.size + 1 + 1 := ⟨_, rfl⟩
  refine zq9 (fun X => LtX w V p r uc Bt Bp Br X) ?hx ?_
  case hx =>
    have h1 : Below w.heap.size w (w.alloc (.cells #[V.a, V.b, V.d, V.c, V.n, V.e, V.s] 29)) := (Below.refl _ _).alloc (Nat.le_refl _) _
    have h2 := h1.alloc (by rw [World.size_alloc]; omega) (.cells #[.int .i64 p.st.lang, .bool p.st.num, .bool p.st.word, .int .i64 (p.need : Nat), .bool p.sw] 141)
    have e2 := heap_alloc_new (w.alloc (.cells #[V.a, V.b, V.d, V.c, V.n, V.e, V.s] 29)) (.cells #[.int .i64 p.st.lang, .bool p.st.num, .bool p.st.word, .int .i64 (p.need : Nat), .bool p.sw] 141)
    have e3 := heap_alloc_new ((w.alloc (.cells #[V.a, V.b, V.d, V.c, V.n, V.e, V.s] 29)).alloc (.cells #[.int .i64 p.st.lang, .bool p.st.num, .bool p.st.word, .int .i64 (p.need : Nat), .bool p.sw] 141)) (.cells #[.string r.text, .int .i64 r.wh, uc] 59)
    simp only [World.size_alloc] at e2 e3
    refine ⟨h2.alloc (by simp only [World.size_alloc]; omega) _, ?_, ?_, ?_⟩
    · rw [hBt]
      exact zq0 ((Below.refl _ _).alloc (Nat.le_refl _) _) (zq0 ((Below.refl _ _).alloc (Nat.le_refl _) _) (heap_alloc_new _ _))
    · rw [hBp]
      exact zq0 ((Below.refl _ _).alloc (Nat.le_refl _) _) e2
    · rw [hBr]
      exact e3
  intro X hX
  have HX := hidep hX
  obtain ⟨g0, g1, g2, g3, g4⟩ : X.cell? ⟨Bp, 0, none⟩ = some (.int .i64 p.st.lang) /\ X.cell? ⟨Bp, 1, none⟩ = some (.bool p.st.num) /\ X.cell? ⟨Bp, 2, none⟩ = some (.bool p.st.word) /\ X.cell? ⟨Bp, 3, none⟩ = some (.int .i64 (p.need : Nat)) /\ X.cell? ⟨Bp, 4, none⟩ = some (.bool p.sw) := by
    refine ⟨?_, ?_, ?_, ?_, ?_⟩ <;> simp [World.cell?, hX.bp]
  obtain ⟨k0, k1, k2⟩ : X.cell? ⟨Br, 0, none⟩ = some (.string r.text) /\ X.cell? ⟨Br, 1, none⟩ = some (.int .i64 r.wh) /\ X.cell? ⟨Br, 2, none⟩ = some uc := by
    refine ⟨?_, ?_, ?_⟩ <;> simp [World.cell?, hX.br]
  rw [<- hBr, <- hBp, <- hBt]
  clear hX hBt hBp hBr
  obtain ⟨lg, hlg⟩ : ∃ x, x = p.st.lang := ⟨_, rfl⟩
  obtain ⟨nm, hnm⟩ : ∃ x, x = p.st.num := ⟨_, rfl⟩
  obtain ⟨wd, hwd⟩ : ∃ x, x = p.st.word := ⟨_, rfl⟩
  obtain ⟨nd, hnd⟩ : ∃ x, x = p.need := ⟨_, rfl⟩
  obtain ⟨wh, hwh⟩ : ∃ x, x = r.wh := ⟨_, rfl⟩
  have HE := hidep (And.intro hlg (And.intro hnm (And.intro hwd (And.intro hnd hwh))))
  rw [<- hlg] at g0
  rw [<- hnm] at g1
  rw [<- hwd] at g2
  rw [<- hnd] at g3
  rw [<- hwh] at k1
  obtain ⟨bl, hbl⟩ : ∃ x, x = zq41 p r.wh := ⟨_, rfl⟩
  have hbl2 : bl = (decide (nd = 1) || (wd && (decide (wh = 1) || decide (wh = 2))) || (!wd && decide (wh = 3))) := by rw [hbl, hnd, hwd, hwh]; rfl
  have HBL := hidep hbl
  clear hlg hnm hwd hnd hwh hbl
  refine zq17 (Lt1 Bt Bp Br bl X) ?r1 ?_
  case r1 =>
    intro K' hMK
    by_cases hn1 : nd = 1
    · have hnI : (nd : Int) = 1 := by omega
      obtain rfl : bl = true := by rw [hbl2, decide_eq_true hn1]; rfl
      clear hbl2
      go_wp2
      (refine ⟨?_, ?_, ?_, ?_, ?_, ?_, rfl⟩ <;> kernel_rfl)
    · have hnI : ¬ (nd : Int) = 1 := by omega
      rw [decide_eq_false hn1, Bool.false_or] at hbl2
      cases wd with
      | true =>
        by_cases h1 : wh = 1
        · subst h1
          obtain rfl : bl = true := by rw [hbl2]; rfl
          clear hbl2
          go_wp2
          (refine ⟨?_, ?_, ?_, ?_, ?_, ?_, rfl⟩ <;> kernel_rfl)
        · by_cases h2 : wh = 2
          · subst h2
            obtain rfl : bl = true := by rw [hbl2]; rfl
            clear hbl2
            go_wp2
            (refine ⟨?_, ?_, ?_, ?_, ?_, ?_, rfl⟩ <;> kernel_rfl)
          · obtain rfl : bl = false := by rw [hbl2, decide_eq_false h1, decide_eq_false h2]; rfl
            clear hbl2
            go_wp2
            (refine ⟨?_, ?_, ?_, ?_, ?_, (by show Value.bool _ = Value.bool false; simp [hnI, h1, h2]), rfl⟩ <;> kernel_rfl)
      | false =>
        by_cases h3 : wh = 3
        · subst h3
          obtain rfl : bl = true := by rw [hbl2]; rfl
          clear hbl2
          go_wp2
          (refine ⟨?_, ?_, ?_, ?_, ?_, ?_, rfl⟩ <;> kernel_rfl)
        · obtain rfl : bl = false := by rw [hbl2, decide_eq_false h3]; rfl
          clear hbl2
          go_wp2
          (refine ⟨?_, ?_, ?_, ?_, ?_, (by show Value.bool _ = Value.bool false; simp [hnI, h3]), rfl⟩ <;> kernel_rfl)
  clear g3 g4
  rintro ⟨tm, ds⟩ X' ⟨hts, hds, e3, e4, e5, e39, eX⟩
  dsimp only at hts hds e3 e4 e5 e39 eX
  subst hds eX
  rw [zq6a tm _ hts, e3, e4, e5, e39]
  clear e3 e4 e5 e39 hts hbl2
  (try apply_assumption)
  cases bl with
  | true =>
    go_wp2
    go_ret
    refine ⟨_, rfl, ?_, HX.out.low⟩
    unfold ltrMv
    rw [if_pos HBL.out.symm]
    exact MvR.nil _ _ _ _
  | false =>
    go_upto_region 4 with (fail)
    obtain ⟨Bo, hBo⟩ : ∃ B, B = X'.heap.size := ⟨_, rfl⟩
    refine zq9 (fun Y => LtB X' Bo lg 0 Y) ⟨(Below.refl _ _).alloc (Nat.le_refl _) _, by rw [hBo]; exact heap_alloc_new _ _⟩ ?_
    intro Y hY
    rw [<- hBo]
    have HBO := hidep hBo
    have HK1 := hidep k1
    have hlr := lt_of_block HX.out.br
    have kY : Y.cell? ⟨Br, 1, none⟩ = some (.int .i64 wh) := (hY.1.cell (p := ⟨Br, 1, none⟩) hlr).trans k1
    have y3 : Y.cell? ⟨Bo, 3, none⟩ = some (.int .i64 0) := by simp [World.cell?, hY.2]
    have yf : Y.frozen? ⟨Bo, 3, none⟩ = false := zq1 hY.2 3
    have HY := hidep hY
    have hXo : X'.heap.size <= Bo := by rw [hBo]; exact Nat.le_refl _
    clear hBo g0 g1 g2 k0 k1 k2 hY
    go_upto_if 47 with (fail)
    refine zq17 (Lt2 X' Bt Bp Br Bo lg (if wh = 1 then 1 else 0)) ?i1 ?_
    case i1 =>
      intro K' hMK
      by_cases h1 : wh = 1
      · subst h1
        have hB : LtB X' Bo lg 1 (Y.setCell ⟨Bo, 3, none⟩ (.int .i64 1)) := ⟨HY.out.1.setCell hXo _, zq12 HY.out.2 3 _⟩
        have HB := hidep hB
        clear hB
        go_wp2
        first
          | (refine ⟨?_, ?_, ?_, ?_, ?_, ?_, HB.out⟩ <;> kernel_rfl)
          | (refine hMK _ _ ⟨?_, ?_, ?_, ?_, ?_, ?_, HB.out⟩ <;> kernel_rfl)
      · rw [if_neg h1] at *
        go_wp2
        first
          | (refine ⟨?_, ?_, ?_, ?_, ?_, ?_, HY.out⟩ <;> kernel_rfl)
          | (refine hMK _ _ ⟨?_, ?_, ?_, ?_, ?_, ?_, HY.out⟩ <;> kernel_rfl)
    clear kY y3 yf HY
    rintro ⟨tm2, ds⟩ Y2 ⟨hts, hds, e3, e4, e5, e7, hY2⟩
    dsimp only at hts hds e3 e4 e5 e7
    subst hds
    rw [zq6a tm2 _ hts, e3, e4, e5, e7]
    clear e3 e4 e5 e7 hts
    (try apply_assumption)
    obtain ⟨n0, hn0⟩ : ∃ x, x = (if wh = 1 then 1 else 0 : Int) := ⟨_, rfl⟩
    rw [<- hn0] at hY2
    have HN0 := hidep hn0
    have kY : Y2.cell? ⟨Br, 1, none⟩ = some (.int .i64 wh) := (hY2.1.cell (p := ⟨Br, 1, none⟩) hlr).trans HK1.out
    have y3 : Y2.cell? ⟨Bo, 3, none⟩ = some (.int .i64 n0) := by simp [World.cell?, hY2.2]
    have yf : Y2.frozen? ⟨Bo, 3, none⟩ = false := zq1 hY2.2 3
    have HY2 := hidep hY2
    clear hY2 hn0
    go_upto_if 51 with (fail)
    refine zq17 (Lt2 X' Bt Bp Br Bo lg (needZ wh : Nat)) ?i2 ?_
    case i2 =>
      intro K' hMK
      by_cases h2 : wh = 2
      · subst h2
        have hB : LtB X' Bo lg 2 (Y2.setCell ⟨Bo, 3, none⟩ (.int .i64 2)) := ⟨HY2.out.1.setCell hXo _, zq12 HY2.out.2 3 _⟩
        have HB := hidep (show LtB X' Bo lg (needZ 2 : Nat) (Y2.setCell ⟨Bo, 3, none⟩ (.int .i64 2)) from hB)
        clear hB
        go_wp2
        first
          | (refine ⟨?_, ?_, ?_, ?_, ?_, ?_, HB.out⟩ <;> kernel_rfl)
          | (refine hMK _ _ ⟨?_, ?_, ?_, ?_, ?_, ?_, HB.out⟩ <;> kernel_rfl)
      · have hnz : n0 = (needZ wh : Nat) := by
          rw [HN0.out]
          unfold needZ
          by_cases h1 : wh = 1
          · rw [if_pos h1, if_pos h1]
            rfl
          · rw [if_neg h1, if_neg h1, if_neg h2]
            rfl
        have HB := hidep (show LtB X' Bo lg (needZ wh : Nat) Y2 from hnz ▸ HY2.out)
        clear hnz
        go_wp2
        first
          | (refine ⟨?_, ?_, ?_, ?_, ?_, ?_, HB.out⟩ <;> kernel_rfl)
          | (refine hMK _ _ ⟨?_, ?_, ?_, ?_, ?_, ?_, HB.out⟩ <;> kernel_rfl)
    clear kY y3 yf HY2 HN0
    rintro ⟨tm3, ds⟩ Y3 ⟨hts, hds, e3, e4, e5, e7, hY3⟩
    dsimp only at hts hds e3 e4 e5 e7
    subst hds
    rw [zq6a tm3 _ hts, e3, e4, e5, e7]
    clear e3 e4 e5 e7 hts
    (try apply_assumption)
    have HX3 := hidep (And.intro (HX.out.below hY3.1) hY3.2)
    clear hY3
    obtain ⟨ms, hms⟩ : ∃ ms, ms = ltrMv T p r := ⟨_, rfl⟩
    have hms2 : ms = [⟨headZ T p ++ r.cells, r.text, false, ⟨⟨p.st.lang, false, true⟩, needZ r.wh, false⟩⟩, ⟨headZ T p ++ (T.cp ++ r.cells), r.text, true, ⟨⟨p.st.lang, false, true⟩, needZ r.wh, false⟩⟩] := by
      rw [hms]
      unfold ltrMv
      rw [if_neg (by rw [<- HBL.out]; decide)]
    have HMS := hidep (And.intro hms hms2)
    clear hms hms2
    obtain ⟨ea, ec, hea, -, -⟩ := HT.out.en.1.form
    obtain ⟨ca, cc, hca, -, -⟩ := HT.out.cp.1.form
    obtain ⟨xa, xc, hxa, -, -⟩ := HUC.out.1.form
    have HF := hidep (And.intro hea (And.intro hca hxa))
    clear hea hca hxa
    go_upto_region 10 with (fail)
    refine wp_loop (LoopI 88 (fun tm ds wr => (slot tm 3) = .pointer (some ⟨Bt, 0, none⟩) /\ (slot tm 4) = .pointer (some ⟨Bp, 0, none⟩) /\ (slot tm 5) = .pointer (some ⟨Br, 0, none⟩) /\ (slot tm 7) = .pointer (some ⟨Bo, 0, none⟩) /\ ds = [] /\ LtL Y3 lg ms (slot tm 8) (slot tm 9) wr)) (fun a' wr => 2 - natI (a'.tmps.getD 9 undef)) ?lkStart ?lkRound
    case' lkStart => refine LoopI.mk rfl ?_
    case' lkRound => (rintro ⟨t, ds⟩ wr ⟨hts, hrel⟩; dsimp only at hts hrel; rw [zq6a t ds hts])
    case lkStart => exact ⟨rfl, rfl, rfl, rfl, rfl, 0, by decide, rfl, MvR.nil _ _ _ _, Below.refl _ _⟩
    obtain ⟨e3, e4, e5, e7, hds, k, hk, e9, hM, hbw⟩ := hrel
    obtain ⟨v8, hv8⟩ : ∃ v, v = slot t 8 := ⟨_, rfl⟩
    rw [<- hv8] at hM
    subst hds
    rw [e3, e4, e5, e7, e9, <- hv8]
    clear e3 e4 e5 e7 e9 hts hv8
    have HM := hidep (And.intro hM hbw)
    clear hM hbw
    have hkw : IntKind.i64.wrap ((k : Int) + 1) = (k : Int) + 1 := IntWalk.i64_in _ (by omega)
    by_cases hk2 : k < 2
    · have hkI : (k : Int) < 2 := by omega
      have HBA := hidep (show ∀ Z : World, Below wr.heap.size wr Z -> Below Y3.heap.size Y3 Z from fun Z hZ => HM.out.2.trans (hZ.mono HM.out.2.size))
      have HSEE := hidep (show ∀ Z : World, Below Y3.heap.size Y3 Z -> (Z.cell? ⟨Bp, 0, none⟩ = some (.int .i64 lg) /\ Z.cell? ⟨Bp, 1, none⟩ = some (.bool nm)) /\ (Z.cell? ⟨Bt, 5, none⟩ = some (.slice ea T.en.length ec) /\ Z.cell? ⟨Bt, 3, none⟩ = some (.slice ca T.cp.length cc)) /\ (Z.cell? ⟨Br, 0, none⟩ = some (.string r.text) /\ Z.cell? ⟨Br, 2, none⟩ = some (.slice xa r.cells.length xc)) /\ (Z.cell? ⟨Bo, 0, none⟩ = some (.int .i64 lg) /\ Z.cell? ⟨Bo, 1, none⟩ = some (.bool false) /\ Z.cell? ⟨Bo, 2, none⟩ = some (.bool true) /\ Z.cell? ⟨Bo, 3, none⟩ = some (.int .i64 (needZ wh : Nat)) /\ Z.cell? ⟨Bo, 4, none⟩ = some (.bool false)) from fun Z hZ => by
        have hX := HX3.out.1.below hZ
        have hB := zq0 hZ HX3.out.2
        obtain ⟨f0, f1, f2, f3, f4, f5, f6⟩ := tb7 hX.bt
        rw [HF.out.1] at f5
        rw [HF.out.2.1] at f3
        have hp0 : Z.cell? ⟨Bp, 0, none⟩ = some (.int .i64 p.st.lang) := by simp [World.cell?, hX.bp]
        have hp1 : Z.cell? ⟨Bp, 1, none⟩ = some (.bool p.st.num) := by simp [World.cell?, hX.bp]
        have hr2 : Z.cell? ⟨Br, 2, none⟩ = some uc := by simp [World.cell?, hX.br]
        rw [HF.out.2.2] at hr2
        rw [<- HE.out.1] at hp0
        rw [<- HE.out.2.1] at hp1
        exact ⟨⟨hp0, hp1⟩, ⟨f5, f3⟩, ⟨by simp [World.cell?, hX.br], hr2⟩, by simp [World.cell?, hB], by simp [World.cell?, hB], by simp [World.cell?, hB], by simp [World.cell?, hB], by simp [World.cell?, hB]⟩)
      have HIN := hidep (show ∀ Z : World, Below wr.heap.size wr Z -> BysAt Z (.slice ea T.en.length ec) T.en /\ BysAt Z (.slice ca T.cp.length cc) T.cp /\ BysAt Z (.slice xa r.cells.length xc) r.cells from fun Z hZ => by
        have hX := (HX3.out.1.below (HBA.out Z hZ)).low
        have h1 := (HT.out.below hX).en
        rw [HF.out.1] at h1
        have h2 := (HT.out.below hX).cp
        rw [HF.out.2.1] at h2
        have h3 := HUC.out.below hX
        rw [HF.out.2.2] at h3
        exact ⟨h1, h2, h3⟩)
      obtain ⟨⟨q0, q1⟩, ⟨q5, q3⟩, -, -⟩ := HSEE.out wr HM.out.2
      have hoE := zq33 T.en
      have hl1 := HLN.out.1
      have HI0 := hidep (HIN.out wr (Below.refl _ _))
      go_upto_if 59 with (fail)
      refine zq17 (fun a X => ∃ v10, Lt3 wr Bt Bp Br Bo k v8 v10 (headZ T p) a X) ?j1 ?_
      case j1 =>
        intro K' hMK
        cases nm with
        | true =>
          have hh : headZ T p = T.en := by unfold headZ; rw [<- HE.out.2.1, if_pos rfl]
          have HH := hidep hh
          clear hh
          go_wp2_with (at_builtin; go_loud (refine zq4 _ rfl (.tmp 60) (.tmp 62) rfl slByt wr.heap.size (.slice none 0 0) 0 [] rfl (World.ownsRow_nil _ _ _ _) _ _ _ _ rfl HI0.out.1.1 hoE (by unfold maxLen; omega) (by omega) (Nat.le_refl _) ?_; intro v1 w1 ho1 hg1 hat hnl; clear hat hnl; simp only [Nat.zero_add, List.nil_append] at ho1))
          have HO := hidep (show w1.ownsRow wr.heap.size 5 1 v1 (headZ T p).length (byC (headZ T p)) /\ Below wr.heap.size wr w1 by
            rw [HH.out]
            exact ⟨ho1, (Below.refl _ _).grown hg1 (Nat.le_refl _) (fun x hx => by cases (show none = some x from hx))⟩)
          first
            | (refine ⟨v1, ?_, ?_, ?_, ?_, ?_, ?_, ?_, ?_, ?_, HO.out⟩ <;> kernel_rfl)
            | (refine hMK _ _ ⟨v1, ?_, ?_, ?_, ?_, ?_, ?_, ?_, ?_, ?_, HO.out⟩ <;> kernel_rfl)
        | false =>
          have hh : headZ T p = [] := by unfold headZ; rw [<- HE.out.2.1, if_neg (by decide)]
          have HO := hidep (show wr.ownsRow wr.heap.size 5 1 (.slice none 0 0) (headZ T p).length (byC (headZ T p)) /\ Below wr.heap.size wr wr by
            rw [hh]
            exact ⟨World.ownsRow_nil _ _ _ _, Below.refl _ _⟩)
          clear hh
          go_wp2
          first
            | (refine ⟨.slice none 0 0, ?_, ?_, ?_, ?_, ?_, ?_, ?_, ?_, ?_, HO.out⟩ <;> kernel_rfl)
            | (refine hMK _ _ ⟨.slice none 0 0, ?_, ?_, ?_, ?_, ?_, ?_, ?_, ?_, ?_, HO.out⟩ <;> kernel_rfl)
      clear q0 q1 q5 q3 HI0
      rintro ⟨tm4, ds⟩ W1 ⟨v10, hts, hds, e3, e4, e5, e7, e8, e9, e10, ho1, hb1⟩
      dsimp only at hts hds e3 e4 e5 e7 e8 e9 e10
      subst hds
      rw [zq6a tm4 _ hts, e3, e4, e5, e7, e8, e9, e10]
      clear e3 e4 e5 e7 e8 e9 e10 hts
      (try apply_assumption)
      obtain ⟨⟨q0, q1⟩, ⟨q5, q3⟩, -, -⟩ := HSEE.out W1 (HBA.out W1 hb1)
      have hoC := zq33 T.cp
      have hl2 := HLN.out.2.1
      have HI1 := hidep (HIN.out W1 hb1)
      have HW1 := hidep (And.intro ho1 hb1)
      have hz1 := hb1.size
      obtain ⟨hn, hhn⟩ : ∃ x, x = (headZ T p).length := ⟨_, rfl⟩
      have hhn2 : hn <= 1000 := by
        rw [hhn]
        unfold headZ
        split
        · exact hl1
        · exact Nat.zero_le _
      rw [<- hhn] at ho1
      have HO1 := hidep ho1
      have HHN := hidep hhn
      clear ho1 hb1 hhn
      obtain ⟨hd2, hhd2⟩ : ∃ x, x = headZ T p ++ (if k = 1 then T.cp else []) := ⟨_, rfl⟩
      have HHD := hidep hhd2
      clear hhd2
      go_upto_if 65 with (fail)
      refine zq17 (fun a X => ∃ v10, Lt3 wr Bt Bp Br Bo k v8 v10 hd2 a X) ?j2 ?_
      case j2 =>
        intro K' hMK
        by_cases hk1 : k = 1
        · have hkI1 : (k : Int) = 1 := by omega
          have HK1' := hidep hk1
          clear hk1
          go_wp2_with (at_builtin; go_loud (refine zq4 _ rfl (.tmp 66) (.tmp 68) rfl slByt wr.heap.size v10 hn (byC (headZ T p)) rfl HO1.out _ _ _ _ rfl HI1.out.2.1.1 hoC (by unfold maxLen; omega) (by omega) hz1 ?_; intro v1 w1 ho2 hg2 hat hnl; clear hat hnl))
          have HO := hidep (show w1.ownsRow wr.heap.size 5 1 v1 hd2.length (byC hd2) /\ Below wr.heap.size wr w1 by
            rw [HHD.out, if_pos HK1'.out]
            refine ⟨?_, HW1.out.2.grown hg2 hz1 (fun x hx => (HO1.out.lt x hx).1)⟩
            rw [List.length_append, <- HHN.out]
            unfold byC at ho2 ⊢
            rw [List.map_append]
            exact ho2)
          first
            | (refine ⟨v1, ?_, ?_, ?_, ?_, ?_, ?_, ?_, (by show Value.int .i64 _ = Value.int .i64 (k : Nat); rw [hkI1]), ?_, HO.out⟩ <;> kernel_rfl)
            | (refine hMK _ _ ⟨v1, ?_, ?_, ?_, ?_, ?_, ?_, ?_, (by show Value.int .i64 _ = Value.int .i64 (k : Nat); rw [hkI1]), ?_, HO.out⟩ <;> kernel_rfl)
        · have hkI1 : ¬ (k : Int) = 1 := by omega
          have HO := hidep (show W1.ownsRow wr.heap.size 5 1 v10 hd2.length (byC hd2) /\ Below wr.heap.size wr W1 by
            rw [HHD.out, if_neg hk1, List.append_nil]
            exact HW1.out)
          go_wp2
          first
            | (refine ⟨v10, ?_, ?_, ?_, ?_, ?_, ?_, ?_, ?_, ?_, HO.out⟩ <;> kernel_rfl)
            | (refine hMK _ _ ⟨v10, ?_, ?_, ?_, ?_, ?_, ?_, ?_, ?_, ?_, HO.out⟩ <;> kernel_rfl)
      clear q0 q1 q5 q3 HI1 HO1 HW1 hz1 HHN
      rintro ⟨tm5, ds⟩ W2 ⟨v11, hts, hds, e3, e4, e5, e7, e8, e9, e10, ho2, hb2⟩
      dsimp only at hts hds e3 e4 e5 e7 e8 e9 e10
      subst hds
      rw [zq6a tm5 _ hts, e3, e4, e5, e7, e8, e9, e10]
      clear e3 e4 e5 e7 e8 e9 e10 hts
      (try apply_assumption)
      have hone1 : ∀ u ∈ byC r.cells, u.oneCell' = true := zq33 r.cells
      have hl3 := HLN.out.2.2.1
      have hl4 := HLN.out.2.2.2
      obtain ⟨cp, hcp⟩ : ∃ x : Bool, x = decide (k = 1) := ⟨_, rfl⟩
      have HCP := hidep hcp
      have HSY := hidep (fun (Z : World) => zqb9 lg r.text cp Z (by omega))
      have hd2n : hd2.length <= 2000 := by
        rw [HHD.out, List.length_append]
        have h9 : (headZ T p).length <= 1000 := by
          unfold headZ
          split
          · exact hl1
          · exact Nat.zero_le _
        have : (if k = 1 then T.cp else []).length <= 1000 := by
          split
          · exact hl2
          · exact Nat.zero_le _
        omega
      obtain ⟨us8, h81, h82, h83⟩ := HM.out.1
      have HU8 := hidep (And.intro h81 h83)
      have hm2 : (ms.take k).length = k := by rw [List.length_take, HMS.out.2]; simp; omega
      rw [hm2] at h82
      have HR8 := hidep h82
      have HM2 := hidep hm2
      have HO2 := hidep (And.intro ho2 hb2)
      have hkc : ((k : Int) == 1) = cp := by
        rw [HCP.out]
        rcases (by omega : k = 0 \/ k = 1) with rfl | rfl <;> rfl
      have HTK := hidep (show ms.take (k + 1) = ms.take k ++ [(⟨hd2 ++ r.cells, r.text, cp, ⟨⟨lg, false, true⟩, needZ wh, false⟩⟩ : MvZ)] from by
        rw [HMS.out.2, HHD.out, HCP.out, HE.out.1, HE.out.2.2.2.2]
        rcases (by omega : k = 0 \/ k = 1) with rfl | rfl
        · simp
        · simp)
      clear hcp h81 h82 h83 hm2 ho2 hb2 hoE hoC
      have hz8 : Y3.heap.size <= wr.heap.size := HM.out.2.size
      have HHR := hidep (show ∀ x ∈ hd2, 0 <= x /\ x < 256 from fun x hx => by
        rw [HHD.out] at hx
        rcases List.mem_append.1 hx with hx | hx
        · unfold headZ at hx
          split at hx
          · exact HT.out.en.2 x hx
          · cases hx
        · split at hx
          · exact HT.out.cp.2 x hx
          · cases hx)
      have HNE82 := fun {W : World} {e : TypeId} {k' n' : Nat} {v' : Value} {xs' : List Value} (h : W.ownsRow W2.heap.size e k' v' n' xs') => (show v'.ownBlock = none \/ v'.ownBlock ≠ v11.ownBlock from by
        cases hv : v'.ownBlock with
        | none => exact .inl rfl
        | some g =>
          refine .inr (fun e1 => ?_)
          have h1 := (h.lt g hv).1
          have h2 := (HO2.out.1.lt g e1.symm).2
          omega)
      go_upto_region 17 with (fail)
      refine wp_region_noPanic (wp_region_held_drew (S := (fun Z => Below Y3.heap.size Y3 Z)) (by kernel_rfl) ?hSz0 (fun hHeld => ?hRz0))
      case hSz0 => ((try dsimp only); (exact HBA.out _ (HO2.out.2.trans (((Below.refl _ _).drew).mono HO2.out.2.size))))
      refine tkC 0 rfl ?_
      refine tkC 1 rfl ?_
      refine tkC 2 rfl ?_
      refine tkB 3 rfl (.inl ⟨by kernel_rfl, fun w hSw => by (obtain ⟨⟨q0, q1⟩, ⟨q5, q3⟩, ⟨r0, r2⟩, o0, o1, o2, o3, o4⟩ := HSEE.out _ hSw); go_simp; first | done | with_reducible rfl⟩) ?_
      refine tkC 5 rfl ?_
      refine tkC 6 rfl ?_
      refine tkB 7 rfl (.inl ⟨by kernel_rfl, fun w hSw => by (obtain ⟨⟨q0, q1⟩, ⟨q5, q3⟩, ⟨r0, r2⟩, o0, o1, o2, o3, o4⟩ := HSEE.out _ hSw); go_simp; first | done | with_reducible rfl⟩) ?_
      refine tkC 8 rfl ?_
      refine tkB 9 rfl (.inl ⟨by kernel_rfl, fun w hSw => by (obtain ⟨⟨q0, q1⟩, ⟨q5, q3⟩, ⟨r0, r2⟩, o0, o1, o2, o3, o4⟩ := HSEE.out _ hSw); go_simp; first | done | with_reducible rfl⟩) ?_
      refine tkC 10 rfl ?_
      refine tkC 11 rfl ?_
      refine tkB 13 rfl (.inl ⟨by kernel_rfl, fun w hSw => by (obtain ⟨⟨q0, q1⟩, ⟨q5, q3⟩, ⟨r0, r2⟩, o0, o1, o2, o3, o4⟩ := HSEE.out _ hSw); go_simp; first | done | with_reducible rfl⟩) ?_
      refine wpAnyH_ready (rs := [4]) (by kernel_rfl) (by simp) (AllReadyH.cons rfl (fun K hK => ?hcz1) AllReadyH.nil)
      (have hk2 : Below W2.heap.size W2 _ := (by first | exact hk2 | exact (Below.refl _ _).drew); have hkw := HO2.out.2.trans (hk2.mono HO2.out.2.size); refine zq11 _ rfl (.tmp 71) (.tmp 73) rfl slByt wr.heap.size v11 hd2.length (byC hd2) (by kernel_rfl) (zq2 HO2.out.1 hk2) _ _ _ _ (by kernel_rfl) (HIN.out _ hkw).2.2.1 hone1 (by unfold maxLen; omega) (by omega) hkw.size ?_; intro v74 w74 ho74 hg74 hat74 hnl; clear hnl; obtain ⟨a74, c74, hv74, -, -⟩ := (Rd.of_own ho74).form; subst hv74; have hkw := hkw.grown hg74 hkw.size (fun x hx => (HO2.out.1.lt x hx).1); (first | (have ho82 := ho82.kept hg74 (HNE82 ho82)) | skip); have hk9 := HBA.out _ hkw; (try dsimp only))
      refine hK.out _ _ (by (try dsimp only); (exact hk9)) ?_
      clear hHeld hK; intro hHeld
      refine wpAnyH_ready (rs := [12]) (by kernel_rfl) (by simp) (AllReadyH.cons rfl (fun K hK => ?hcz2) AllReadyH.nil)
      go_simp
      (go_at_call 122; (with_reducible refine (HSY.out _).mono ?_); rintro e' w82 ⟨v82, rfl, ho82, hb82⟩; obtain ⟨a82, c82, hv82, -, -⟩ := (Rd.of_own ho82).form; subst hv82; (first | (have hkw := hkw.trans (hb82.mono hkw.size); have ho74 := zq2 ho74 hb82) | (have hk2 : Below W2.heap.size W2 w82 := ((Below.refl _ _).drew).trans hb82)); have hk9 := hHeld.trans (hb82.mono hHeld.size); (try dsimp only))
      refine hK.out _ _ (by (try dsimp only); (exact hk9)) ?_
      clear hHeld hK; intro hHeld
      refine tkC 14 rfl ?_
      refine wpAnyH_ready (rs := [15]) (by kernel_rfl) (by simp) (AllReadyH.cons rfl (fun K hK => ?hcz3) AllReadyH.nil)
      go_simp
      ((first | refine zq7 (fun X85 hBX hL85 => ?_) | refine zq3 (fun X85 hBX hL85 => ?_)); have hkw := hkw.trans (hBX.mono hkw.size); have ho74 := zq2 ho74 hBX; have ho82 := zq2 ho82 hBX; have hk9 := HBA.out _ hkw; (try dsimp only))
      refine hK.out _ _ (by (try dsimp only); (exact hk9)) ?_
      clear hHeld hK; intro hHeld
      refine wpAnyH_ready (rs := [16]) (by kernel_rfl) (by simp) (AllReadyH.cons rfl (fun K hK => ?hcz4) AllReadyH.nil)
      (refine zq11 _ rfl (.tmp 70) (.tmp 85) rfl zq8f Y3.heap.size v8 k (mvsC (ms.take k) us8) (by kernel_rfl) (zq2 HR8.out hkw) _ _ _ _ (by kernel_rfl) (zq28 hL85) (by intro u hu; simp at hu; rcases hu with rfl | rfl | rfl | rfl | rfl | rfl | rfl <;> rfl) (by unfold maxLen; omega) (by omega) hk9.size ?_; intro v86 w86 ho86 hg86 hat86 hnl; clear hnl; have hk9 := hk9.grown hg86 hk9.size (fun x hx => (HR8.out.lt x hx).1); (try dsimp only))
      refine hK.out _ _ (by (try dsimp only); (exact hk9)) ?_
      clear hHeld hK; intro hHeld
      refine tkC 17 rfl ?_
      refine wpAnyH_done (by kernel_rfl) ?_ _
      clear hHeld
      refine NoPanic.normal ?_
      all_goals
        (try dsimp only [Exit.then])
        have hv8 := zq2 HR8.out hkw
        have hap := (ApM.own (bd := 0) ho74 (by decide)).and (ApM.own (bd := 0) ho82 (by decide))
        have hcl : (hd2 ++ r.cells).length = hd2.length + r.cells.length := List.length_append
        have hcb : byC hd2 ++ byC r.cells = byC (hd2 ++ r.cells) := by unfold byC; rw [List.map_append]
        have hnew : MvR Y3.heap.size 0 lg w86 v86 (ms.take k ++ [(⟨hd2 ++ r.cells, r.text, cp, ⟨⟨lg, false, true⟩, needZ wh, false⟩⟩ : MvZ)]) := by
          refine MvR.push (W := X85) (v := v8) (us := us8) (un := [(.slice a74 (hd2.length + r.cells.length) c74, .slice a82 (zq1b lg r.text cp).length c82)]) HU8.out.1 (fun i a b => (HU8.out.2 i a b).below hkw) rfl (fun i a b => ?_) hg86 (by rw [HM2.out]; exact hv8) (Nat.zero_le _) (by rw [HM2.out]; exact ho86)
          have hi0 : i = 0 := by simp at a; omega
          subst hi0
          refine hap.mono (fun Z hZ => ⟨?_, SymsAt.of_own hZ.2⟩)
          refine BysAt.of_own (base := wr.heap.size) (e := 5) ?_ (fun x hx => ?_)
          · show Z.ownsRow wr.heap.size 5 1 (.slice a74 (hd2.length + r.cells.length) c74) (hd2 ++ r.cells).length (byC (hd2 ++ r.cells))
            rw [hcl, <- hcb]
            exact hZ.1
          · rcases List.mem_append.1 hx with hx | hx
            · exact HHR.out x hx
            · exact HUC.out.2 x hx
        rw [<- HTK.out] at hnew
        have HNW := hidep (And.intro hnew hk9)
        clear hnew hap hv8 hcl hcb
        go_wp2
        refine ⟨LoopI.mk (by kernel_rfl) ⟨by kernel_rfl, by kernel_rfl, by kernel_rfl, by kernel_rfl, rfl, k + 1, by omega, by kernel_rfl, HNW.out.1, HNW.out.2⟩, ?_⟩
        show 2 - _ < 2 - _
        simp [natI]; omega
    · have hkI : ¬ (k : Int) < 2 := by omega
      have hke : k = 2 := by omega
      go_wp2
      go_ret
      refine ⟨_, rfl, ?_, ?_⟩
      · have h := HM.out.1
        rw [hke, List.take_of_length_le (by rw [HMS.out.2]; exact Nat.le_refl _), HMS.out.1] at h
        obtain ⟨us, h1, h2, h3⟩ := h
        have hl := HE.out.1
        rw [<- hl]
        exact ⟨us, h1, zqd0 h2 HX3.out.1.low.size, h3⟩
      · exact HX3.out.1.low.trans (HM.out.2.mono HX3.out.1.low.size)
end Go.Proofs.YtcfjepcflanjbaaGreat
