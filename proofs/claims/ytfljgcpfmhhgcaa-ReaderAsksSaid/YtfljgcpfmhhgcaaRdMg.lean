/- The maker of examinations: melodies. -/
import Derived.Test.YtfljgcpfmhhgcaaRdMe
namespace Go.Proofs.Ytfljgcpfmhhgcaa
open Go.RowKit Go.Lab
attribute [local go_sem] Oper.semAt_some
set_option maxRecDepth 100000
theorem range_map69 (f : Nat → Value) : (List.range 69).map f = [f 0, f 1, f 2, f 3, f 4, f 5, f 6, f 7, f 8, f 9, f 10, f 11, f 12, f 13, f 14, f 15, f 16, f 17, f 18, f 19, f 20, f 21, f 22, f 23, f 24, f 25, f 26, f 27, f 28, f 29, f 30, f 31, f 32, f 33, f 34, f 35, f 36, f 37, f 38, f 39, f 40, f 41, f 42, f 43, f 44, f 45, f 46, f 47, f 48, f 49, f 50, f 51, f 52, f 53, f 54, f 55, f 56, f 57, f 58, f 59, f 60, f 61, f 62, f 63, f 64, f 65, f 66, f 67, f 68] := rfl
theorem frame69 (t : Array Value) (ds : List Deferred) (h : t.size = 69) : ({ tmps := t, defers := ds } : Act) = { tmps := #[slot t 0, slot t 1, slot t 2, slot t 3, slot t 4, slot t 5, slot t 6, slot t 7, slot t 8, slot t 9, slot t 10, slot t 11, slot t 12, slot t 13, slot t 14, slot t 15, slot t 16, slot t 17, slot t 18, slot t 19, slot t 20, slot t 21, slot t 22, slot t 23, slot t 24, slot t 25, slot t 26, slot t 27, slot t 28, slot t 29, slot t 30, slot t 31, slot t 32, slot t 33, slot t 34, slot t 35, slot t 36, slot t 37, slot t 38, slot t 39, slot t 40, slot t 41, slot t 42, slot t 43, slot t 44, slot t 45, slot t 46, slot t 47, slot t 48, slot t 49, slot t 50, slot t 51, slot t 52, slot t 53, slot t 54, slot t 55, slot t 56, slot t 57, slot t 58, slot t 59, slot t 60, slot t 61, slot t 62, slot t 63, slot t 64, slot t 65, slot t 66, slot t 67, slot t 68], defers := ds } := by
  have e : t = ((List.range 69).map (slot t)).toArray := by
    apply Array.ext
    · simp [h]
    · intro i h1 h2
      simp [slot, Array.getD, h1]
  rw [range_map69] at e
  exact congrArg (fun x => ({ tmps := x, defers := ds } : Act)) e
theorem slNoteR : SlT Try.prog 152 154 (.agg #[.int .i64 0, .int .i64 0, .int .i64 0]) 3 24 := ⟨by kernel_rfl, by kernel_rfl, rfl, by decide⟩
theorem slBarR : SlT Try.prog 132 152 (.slice none 0 0) 1 24 := ⟨by kernel_rfl, by kernel_rfl, rfl, by decide⟩
theorem slHandR : SlT Try.prog 102 132 (.slice none 0 0) 1 24 := ⟨by kernel_rfl, by kernel_rfl, rfl, by decide⟩
theorem load_melody (w : World) (g : Nat) (x : Value) (c0 : w.cell? ⟨g, 0, none⟩ = some x) : (loadVar 104 ⟨g, 0, none⟩).run Try.prog w = .ok (.agg #[x]) w := by
  go_simp
/-- The outer loop: i hands are in the box. -/
def MelI (P : Nat) (la : Option Addr) (lc : Nat) (l : List Int) (w X : World) (B2 B3 : Nat) (s6 : Value) (wr : World) : Prop :=
  ∃ (i : Nat) (rv : Value) (vs : List Value), i ≤ 3 ∧ s6 = .int .i64 (i : Nat) ∧ wr.ownsRow X.heap.size 132 1 rv i vs ∧ (∀ v ∈ vs, ∃ a n c, v = .slice a n c) ∧ wr.heap[B3]? = some (.cells #[rv] 104) ∧ wr.heap[B2]? = some (.cells #[.slice none 0 0] 104) ∧ X.heap.size ≤ wr.heap.size ∧ MkR P la lc l w wr
set_option maxHeartbeats 8000000 in
theorem melody_any {P : Nat} {la : Option Addr} {lc : Nat} {l : List Int} (w : World) (h : Mk P la lc l w) :
    Calls Try.prog 73 #[.pointer (some ⟨P, 0, none⟩)] w fun e w' => (∃ (a : Option Addr) (n c : Nat), e = .returned (.agg #[.slice a n c]) ∧ 0 < n ∧ FirstIs w' P a) ∧ MkR P la lc l w w' := by
  have HM := hidep h
  have HT := hidep (fun n X (hX : MkR P la lc l w X) => takeM_any n X (hX.mk h))
  have hr0 := MkR.refl h
  have hP := h.lt
  clear h
  go_enter Try.func73, Try.ntmps73
  go_upto_region 2 with (fail)
  refine wp_abs (fun X => X.heap[w.heap.size]? = some (.cells #[.slice none 0 0] 104) ∧ X.heap[w.heap.size + 1]? = some (.cells #[.slice none 0 0] 104) ∧ MkR P la lc l w X)
    ⟨allocs_get [.cells #[.slice none 0 0] 104, .cells #[.slice none 0 0] 104] w 0 _ rfl, allocs_get [.cells #[.slice none 0 0] 104, .cells #[.slice none 0 0] 104] w 1 _ rfl, (hr0.alloc _).alloc _⟩ ?_
  rintro X ⟨hq2, hq3, hrX⟩
  obtain ⟨B2, hB2⟩ : ∃ B2, B2 = w.heap.size := ⟨_, rfl⟩
  obtain ⟨B3, hB3⟩ : ∃ B3, B3 = w.heap.size + 1 := ⟨_, rfl⟩
  rw [← hB3] at hq3
  rw [← hB2] at hq2
  rw [← hB3, ← hB2]
  have HBB := hidep (show w.heap.size ≤ B2 ∧ w.heap.size ≤ B3 ∧ B2 ≠ B3 from by omega)
  have hB2P : B2 ≠ P := by omega
  have hB3P : B3 ≠ P := by omega
  clear hB2 hB3 hr0
  go_upto_region 4 with (first
    | (go_at_call 52; first | (refine (HT.out _ _ hrX).mono ?_; rintro e w1 ⟨⟨z1, rfl, hz0, hz1, _⟩, hr1⟩; have hz3 : z1 < 2 := hz1 (by decide); have hq21 := hr1.box hq2 hB2P; have hq31 := hr1.box hq3 hB3P; have hr1 := hrX.trans hr1; clear hrX) | (refine (HT.out _ _ hr1).mono ?_; rintro e w2 ⟨⟨z2, rfl, hy0, hy1, _⟩, hr2⟩; have hy3 : z2 < 3 := hy1 (by decide); have hq22 := hr2.box hq21 hB2P; have hq32 := hr2.box hq31 hB3P; have hr2 := hr1.trans hr2))
    | fail)
  obtain ⟨m, hm⟩ : ∃ m : Nat, 1 + z1 = (m : Int) := ⟨(1 + z1).toNat, by omega⟩
  obtain ⟨n, hn⟩ : ∃ n : Nat, 1 + z2 = (n : Int) := ⟨(1 + z2).toNat, by omega⟩
  have hm3 : 1 ≤ m ∧ m ≤ 3 := by omega
  have hn3 : n ≤ 3 := by omega
  rw [hm, hn]
  have HBL := hidep (show B2 < w2.heap.size ∧ B3 < w2.heap.size from ⟨lt_of_block hq22, lt_of_block hq32⟩)
  have hs2 := hr2.size
  clear hm hn hz0 hz1 hz3 hy0 hy1 hy3 hq2 hq3 hq21 hq31 hr1
  go_upto_region 5 with (fail)
  refine wp_loop (LoopI 69 (fun tm ds wr => (slot tm 0) = .pointer (some ⟨P, 0, none⟩) ∧ (slot tm 2) = .pointer (some ⟨B2, 0, none⟩) ∧ (slot tm 3) = .pointer (some ⟨B3, 0, none⟩) ∧ (slot tm 4) = .int .i64 (m : Nat) ∧ (slot tm 5) = .int .i64 (n : Nat) ∧ ds = [] ∧ MelI P la lc l w w2 B2 B3 (slot tm 6) wr)) (fun a' wr => 3 - (intOf (a'.tmps.getD 6 undef)).toNat) ?rowsStart ?rowsRound
  case' rowsStart => refine LoopI.mk rfl ?_
  case' rowsRound => (rintro ⟨t, ds⟩ wr ⟨hts, hrel⟩; dsimp only at hts hrel; rw [frame69 t ds hts])
  case rowsStart => exact ⟨rfl, rfl, rfl, rfl, rfl, rfl, 0, _, [], by omega, rfl, World.ownsRow_nil _ _ _ _, (by simp), hq32, hq22, Nat.le_refl _, hr2⟩
  clear hq32 hq22 hr2
  obtain ⟨h0, h2, h3, h4, h5, hds, i, rv, vs, hi, h6, hown, hvs, hq3, hq2, hsz, hrw⟩ := hrel
  subst hds
  obtain ⟨ra, rc, rfl, _, _⟩ := (Rd.of_own hown).form
  rw [h0, h2, h3, h4, h5, h6]
  clear h0 h2 h3 h4 h5 h6 hts
  by_cases hlt : i < m
  · have hlti : (i : Int) < (m : Int) := by omega
    obtain ⟨w1, hw1⟩ : ∃ w1 : World, w1 = wr := ⟨_, rfl⟩
    rw [← hw1] at hown hq3 hq2 hsz hrw
    have HM1 := hidep (hrw.mk HM.out)
    have hr11 := MkR.refl HM1.out
    rw [← hw1]
    clear hw1
    go_upto_region 9 with (fail)
    refine wp_loop (LoopI 69 (fun tm ds wr => (slot tm 0) = .pointer (some ⟨P, 0, none⟩) ∧ (slot tm 2) = .pointer (some ⟨B2, 0, none⟩) ∧ (slot tm 3) = .pointer (some ⟨B3, 0, none⟩) ∧ (slot tm 4) = .int .i64 (m : Nat) ∧ (slot tm 5) = .int .i64 (n : Nat) ∧ (slot tm 6) = .int .i64 (i : Nat) ∧ ds = [] ∧ MkL P la lc l w1 152 1 n (slot tm 7) (slot tm 8) wr)) (fun a' wr => n - (intOf (a'.tmps.getD 8 undef)).toNat) ?barsStart ?barsRound
    case' barsStart => refine LoopI.mk rfl ?_
    case' barsRound => (rintro ⟨t, ds⟩ wr ⟨hts, hrel⟩; dsimp only at hts hrel; rw [frame69 t ds hts])
    case barsStart => exact ⟨rfl, rfl, rfl, rfl, rfl, rfl, rfl, 0, Nat.zero_le _, rfl, ⟨[], World.ownsRow_nil _ _ _ _⟩, hr11⟩
    clear hr11
    obtain ⟨h0, h2, h3, h4, h5, h6, hds, k, hk, h8, hrow, hrk⟩ := hrel
    subst hds
    obtain ⟨ka, kc, hkv, _, _⟩ := hrow.form
    rw [hkv] at hrow
    rw [h0, h2, h3, h4, h5, h6, h8, hkv]
    clear h0 h2 h3 h4 h5 h6 h8 hkv hts
    obtain ⟨xs, hrow⟩ := hrow
    have hP1 := HM1.out.lt
    have hsk := hrk.size
    by_cases hkl : k < n
    · have hkli : (k : Int) < (n : Int) := by omega
      obtain ⟨w3, hw3⟩ : ∃ w3 : World, w3 = wr := ⟨_, rfl⟩
      rw [← hw3] at hrow hrk hsk
      have HM3 := hidep (hrk.mk HM1.out)
      have HT3 := hidep (fun n Y (hY : MkR P la lc l w3 Y) => takeM_any n Y (hY.mk HM3.out))
      have hr33 := MkR.refl HM3.out
      have HROW := hidep hrow
      have HRK := hidep hrk
      rw [← hw3]
      clear hw3 hrow hrk
      go_upto_region 14 with (first
        | (go_at_call 52; refine (HT3.out _ _ hr33).mono ?_; rintro e w5 ⟨⟨y, rfl, hy0, hy1, _⟩, hr5⟩; have hy4 : y < 4 := hy1 (by decide))
        | fail)
      obtain ⟨q, hq⟩ : ∃ q : Nat, 1 + y = (q : Int) := ⟨(1 + y).toNat, by omega⟩
      have hq4 : q ≤ 4 := by omega
      rw [hq]
      clear hq hy0 hy1 hy4 hr33
      refine wp_loop (LoopI 69 (fun tm ds wr => (slot tm 0) = .pointer (some ⟨P, 0, none⟩) ∧ (slot tm 2) = .pointer (some ⟨B2, 0, none⟩) ∧ (slot tm 3) = .pointer (some ⟨B3, 0, none⟩) ∧ (slot tm 4) = .int .i64 (m : Nat) ∧ (slot tm 5) = .int .i64 (n : Nat) ∧ (slot tm 6) = .int .i64 (i : Nat) ∧ (slot tm 7) = .slice ka k kc ∧ (slot tm 8) = .int .i64 (k : Nat) ∧ (slot tm 10) = .int .i64 (q : Nat) ∧ ds = [] ∧ MkL P la lc l w3 154 3 q (slot tm 9) (slot tm 11) wr)) (fun a' wr => q - (intOf (a'.tmps.getD 11 undef)).toNat) ?notesStart ?notesRound
      case' notesStart => refine LoopI.mk rfl ?_
      case' notesRound => (rintro ⟨t, ds⟩ wr ⟨hts, hrel⟩; dsimp only at hts hrel; rw [frame69 t ds hts])
      case notesStart => exact ⟨rfl, rfl, rfl, rfl, rfl, rfl, rfl, rfl, rfl, rfl, 0, Nat.zero_le _, rfl, ⟨[], World.ownsRow_nil _ _ _ _⟩, hr5⟩
      clear hr5
      obtain ⟨h0, h2, h3, h4, h5, h6, h7, h8, h10, hds, j, hj, h11, hrowj, hrj⟩ := hrel
      subst hds
      obtain ⟨ja, jc, hjv, _, _⟩ := hrowj.form
      rw [hjv] at hrowj
      rw [h0, h2, h3, h4, h5, h6, h7, h8, h10, h11, hjv]
      clear h0 h2 h3 h4 h5 h6 h7 h8 h10 h11 hjv hts
      obtain ⟨ys, hownj⟩ := hrowj
      have hsj := hrj.size
      by_cases hjq : j < q
      · have hjqi : (j : Int) < (q : Int) := by omega
        have HMr := hidep (hrj.mk HM3.out)
        have HTr := hidep (fun n Y (hY : MkR P la lc l wr Y) => takeM_any n Y (hY.mk HMr.out))
        have HRJ := hidep hrj
        have hr0 := MkR.refl HMr.out
        have hPr := HMr.out.lt
        go_upto_region 17 with (first
          | (go_at_call 52; first | ((with_reducible refine (HTr.out _ _ hr0).mono ?_); rintro e wa ⟨⟨za, rfl, ha0, ha1, _⟩, hra⟩; have hsa := hra.size) | ((with_reducible refine (HTr.out _ _ hra).mono ?_); rintro e wb ⟨⟨zb, rfl, hb0, hb1, _⟩, hrb⟩; have hrb := hra.trans hrb; have hsb := hrb.size) | (refine (HTr.out _ _ (hrb.alloc _)).mono ?_; rintro e wc ⟨⟨zc, rfl, hc0, hc1, _⟩, hrc⟩; obtain ⟨zn, rfl⟩ : ∃ zn : Nat, zc = (zn : Int) := ⟨zc.toNat, by omega⟩; have hc5 : (zn : Int) < 5 := hc1 (by decide); obtain ⟨v, hcc, al, rfl⟩ := lit_get (p := fun v => ∃ n : Int, v = .int .i64 n) (hrc.box (heap_alloc_new _ _) (by omega)) (by simp) (z := zn) (by simp; omega); have hrc := (hrb.alloc _).trans hrc))
          | fail)
        refine wp_abs (fun X => (∃ np nq nr : Int, X.heap[wc.heap.size]? = some (.cells #[.int .i64 np, .int .i64 nq, .int .i64 nr] 154)) ∧ MkR P la lc l wr X) ⟨⟨_, _, _, heap_alloc_new _ _⟩, hrc.alloc _⟩ ?_
        have hsc := hrc.size
        obtain ⟨BN, hBN⟩ : ∃ BN, BN = wc.heap.size := ⟨_, rfl⟩
        rw [← hBN]
        have HBN := hidep (show wr.heap.size ≤ BN from by omega)
        have hBNP : BN ≠ P := by omega
        clear hBN hsc hrc hrb hra hcc hc0 hc1 hc5 ha0 ha1 hb0 hb1 hr0 hsa hsb
        rintro X ⟨⟨np, nq, nr, hqX⟩, hrX⟩
        go_upto_if 50 with (first
          | (go_at_call 52; refine (HTr.out _ _ hrX).mono ?_; rintro e w8 ⟨⟨zd, rfl, hd1, hd2, _⟩, hr8⟩; have hq8 := hr8.box hqX hBNP; have hr8 := hrX.trans hr8)
          | fail)
        clear hqX hrX
        by_cases hd0 : zd = 0
        · have hdb : (zd == 0) = true := by simp [hd0]
          clear hd0 hd1 hd2
          obtain ⟨y0, y1, y2⟩ := box3_cells hq8
          have f0 := box_frozen hq8 0
          have f1 := box_frozen hq8 1
          have f2 := box_frozen hq8 2
          go_upto_region 19 with (fail)
          obtain ⟨hqN, hrN⟩ := out3 HMr.out HBN.out hq8 hr8 (y0 := .int .i64 (-1)) (y1 := .int .i64 nq) (y2 := .int .i64 0)
          refine wp_abs (fun X => X.heap[BN]? = some (.cells #[.int .i64 (-1), .int .i64 nq, .int .i64 0] 154) ∧ MkR P la lc l wr X) ⟨hqN, hrN⟩ ?_
          clear hqN hrN y0 y1 y2 f0 f1 f2 hq8 hr8
          rintro w8 ⟨hqN, hrN⟩
          have hMo := HM3.out.lt
          obtain ⟨n0, n1, n2⟩ := box3_cells hqN
          have hownN := hrN.row hownj (by omega)
          have hsN := hrN.size
          have hrj3 := HRJ.out.trans hrN
          go_wp2_with (first
            | (at_builtin; refine wpList_append_rd _ rfl (.tmp 54) (.tmp 56) rfl slNoteR w3.heap.size _ _ _ rfl (hownN.alloc _) _ _ _ _ rfl (Rd.fresh w8 #[.int .i64 _, .int .i64 _, .int .i64 _] 154 3 1 rfl (by decide)) (by intro u hu; simp at hu; rcases hu with rfl | rfl | rfl <;> rfl) (by unfold maxLen; omega) (by omega) (by simp; omega) ?_; intro v2 w9 hown9 hgr9 hat9 hnl9; clear hat9 hnl9)
            | fail)
          have hend := (hrj3.alloc _).own HM3.out hgr9 (fun g hg => (hownN.lt g hg).1)
          refine ⟨LoopI.mk rfl ⟨rfl, rfl, rfl, rfl, rfl, rfl, rfl, rfl, rfl, rfl, j + 1, by omega, by show Value.int _ _ = _; go_num, ⟨_, hown9⟩, hend⟩, ?_⟩
          show q - _ < q - _
          simp [intOf]; omega
        · have hdb : (zd == 0) = false := beq_false_of_ne hd0
          clear hd0 hd1 hd2
          have hqN := hq8
          have hrN := hr8
          go_upto_region 19 with (fail)
          have hMo := HM3.out.lt
          obtain ⟨n0, n1, n2⟩ := box3_cells hqN
          have hownN := hrN.row hownj (by omega)
          have hsN := hrN.size
          have hrj3 := HRJ.out.trans hrN
          go_wp2_with (first
            | (at_builtin; refine wpList_append_rd _ rfl (.tmp 54) (.tmp 56) rfl slNoteR w3.heap.size _ _ _ rfl (hownN.alloc _) _ _ _ _ rfl (Rd.fresh w8 #[.int .i64 _, .int .i64 _, .int .i64 _] 154 3 1 rfl (by decide)) (by intro u hu; simp at hu; rcases hu with rfl | rfl | rfl <;> rfl) (by unfold maxLen; omega) (by omega) (by simp; omega) ?_; intro v2 w9 hown9 hgr9 hat9 hnl9; clear hat9 hnl9)
            | fail)
          have hend := (hrj3.alloc _).own HM3.out hgr9 (fun g hg => (hownN.lt g hg).1)
          refine ⟨LoopI.mk rfl ⟨rfl, rfl, rfl, rfl, rfl, rfl, rfl, rfl, rfl, rfl, j + 1, by omega, by show Value.int _ _ = _; go_num, ⟨_, hown9⟩, hend⟩, ?_⟩
          show q - _ < q - _
          simp [intOf]; omega
      · have hjqi : ¬ (j : Int) < (q : Int) := by omega
        have hownk := hrj.row HROW.out (by omega)
        have hrk := HRK.out.trans hrj
        have hsk2 := hrk.size
        go_wp2_with (first
          | (at_builtin; refine wpList_append_rd _ rfl (.tmp 58) (.tmp 60) rfl slBarR w1.heap.size _ _ _ rfl (hownk.alloc _) _ _ _ _ rfl (Rd.fresh wr #[.slice ja j jc] 152 1 1 rfl (by decide)) (by intro u hu; simp at hu; rw [hu]; rfl) (by unfold maxLen; omega) (by omega) (by simp; omega) ?_; intro v2 w4 hown4 hgr4 hat4 hnl4; clear hat4 hnl4)
          | fail)
        have hend := (hrk.alloc _).own HM1.out hgr4 (fun g hg => (hownk.lt g hg).1)
        refine ⟨LoopI.mk rfl ⟨rfl, rfl, rfl, rfl, rfl, rfl, rfl, k + 1, by omega, by show Value.int _ _ = _; go_num, ⟨_, hown4⟩, hend⟩, ?_⟩
        show n - _ < n - _
        simp [intOf]; omega
    · have hkli : ¬ (k : Int) < (n : Int) := by omega
      have hq3k := hrk.box hq3 hB3P
      have hq2k := hrk.box hq2 hB2P
      have hownk := hrk.row hown (by omega)
      have hrwk := hrw.trans hrk
      have hBL := HBL.out
      have hbw := HBB.out
      have y0 := box1_cell hq3k
      clear hrow hq3 hq2 hown hrw
      go_wp2_with (first
        | (at_builtin; refine wpList_append_rd _ rfl (.tmp 63) (.tmp 65) rfl slHandR w2.heap.size _ _ _ rfl (hownk.alloc _) _ _ _ _ rfl (Rd.fresh wr #[.slice ka k kc] 132 1 1 rfl (by decide)) (by intro u hu; simp at hu; rw [hu]; rfl) (by unfold maxLen; omega) (by omega) (by simp; omega) ?_; intro v2 w4 hown4 hgr4 hat4 hnl4; clear hat4 hnl4; obtain ⟨va4, vc4, rfl, _, _⟩ := (Rd.of_own hown4).form; have hq3e := (hgr4.block B3 (by simp; omega) (fun e1 => by have := (hownk.lt B3 e1.symm).1; omega)).trans (below_push ((Below.refl _ _).alloc (Nat.le_refl _) _) hq3k); have hq2e := (hgr4.block B2 (by simp; omega) (fun e1 => by have := (hownk.lt B2 e1.symm).1; omega)).trans (below_push ((Below.refl _ _).alloc (Nat.le_refl _) _) hq2k); have ye := box1_cell hq3e; have fe := box_frozen hq3e 0)
        | fail)
      have hke := (hrwk.alloc _).own HM.out hgr4 (fun g hg => Nat.le_trans hs2 (hownk.lt g hg).1)
      have hse := hgr4.size
      simp only [World.size_alloc] at hse
      refine ⟨LoopI.mk rfl ⟨rfl, rfl, rfl, rfl, rfl, rfl, i + 1, .slice va4 (i + 1) vc4, _, by omega, by show Value.int _ _ = _; go_num, hown4.kept (grownBy_setC w4 B3 0 _) (.inr (fun e1 => by have := (hown4.lt B3 e1).1; omega)), fun v hv => ?_, heap_set hq3e 0 _, (Below.heap_setCell w4 ⟨B3, 0, none⟩ _ B2 hbw.2.2).trans hq2e, by simp [World.setCell]; omega, hke.set HM.out hbw.2.1⟩, ?_⟩
      · rcases List.mem_append.1 hv with h | h
        · exact hvs v h
        · have : v = .slice ka k kc := by simpa using h
          exact ⟨ka, k, kc, this⟩
      · show 3 - _ < 3 - _
        simp [intOf]; omega
  · have hlti : ¬ (i : Int) < (m : Int) := by omega
    have y0 := box1_cell hq3
    have z0 := box1_cell hq2
    have f0 := box_frozen hq2 0
    have hbw := HBB.out
    have hBL := HBL.out
    have hrs := hrw.set HM.out hbw.1 (o := 0) (v := .slice ra i rc)
    have hfi := first_own (P := P) hown (by omega) (by omega) hvs
    have HRS := hidep hrs
    have HFI := hidep hfi
    have HQ := hidep (heap_set hq2 0 (.slice ra i rc))
    have hB2g : ∀ gb : Nat, ra = some ⟨gb, 0, none⟩ → gb ≠ B2 := fun gb e1 e2 => by
      have h1 : (Value.slice ra i rc).ownBlock = some gb := by rw [e1]; rfl
      have := (hown.lt gb h1).1
      omega
    clear hrs hfi hown hvs
    go_wp2
    refine bodyPost_ret (results_cell1 rfl _ _ _ rfl (load_melody _ B2 _ (box1_cell HQ.out))) rfl ?_
    refine ⟨⟨ra, i, ⟨rc, rfl⟩, by omega, ?_⟩, HRS.out⟩
    obtain ⟨gb, e1, h1, h2, xa, xn, xc, h3⟩ := HFI.out
    refine ⟨gb, e1, h1, by simpa [World.setCell] using h2, xa, xn, xc, ?_⟩
    rw [← h3]
    exact (Turned.setCell (Turned.refl (fun b => b = B2) wr) ⟨B2, 0, none⟩ _ (.inr rfl)).cell h3 (hB2g gb e1) |>.trans h3.symm
end Go.Proofs.Ytfljgcpfmhhgcaa
