/- The maker of examinations: tables of entries. -/
import Derived.Test.YtfljgcpfmhhgcaaRdMd
namespace Go.Proofs.Ytfljgcpfmhhgcaa
open Go.RowKit Go.Lab
attribute [local go_sem] Oper.semAt_some
set_option maxRecDepth 100000
theorem slStrsR : SlT Try.prog 96 83 (.slice none 0 0) 1 24 := ⟨by kernel_rfl, by kernel_rfl, rfl, by decide⟩
theorem load_grid (w : World) (g : Nat) (x : Value) (c0 : w.cell? ⟨g, 0, none⟩ = some x) : (loadVar 98 ⟨g, 0, none⟩).run Try.prog w = .ok (.agg #[x]) w := by
  go_simp
/-- A list of slices that is not empty: its first element can be read. -/
def FirstIs (w : World) (P : Nat) (a : Option Addr) : Prop := ∃ gb : Nat, a = some ⟨gb, 0, none⟩ ∧ gb ≠ P ∧ gb < w.heap.size ∧ ∃ (ra : Option Addr) (rn rc : Nat), w.cell? ⟨gb, 0, none⟩ = some (.slice ra rn rc)
theorem first_own {w : World} {P base n : Nat} {e : TypeId} {a : Option Addr} {c : Nat} {vs : List Value} (h : w.ownsRow base e 1 (.slice a n c) n vs) (hn : 0 < n) (hP : P < base) (hs : ∀ v ∈ vs, ∃ (a : Option Addr) (n c : Nat), v = .slice a n c) : FirstIs w P a := by
  obtain ⟨b, off, rfl, hb, hc⟩ := Rd.at (Rd.of_own h) hn
  have hl : 0 < vs.length := by have := h.1; omega
  rcases h.2 with ⟨e1, _⟩ | ⟨g, cap, cur, e1, hbase, _⟩
  · injection e1 with _ e2 _
    omega
  · injection e1 with e2 _ _
    injection e2 with e2
    injection e2 with e3 e4
    subst e3 e4
    obtain ⟨ra, rn, rc, hv⟩ := hs vs[0] (List.getElem_mem hl)
    have := hc 0 _ (List.getElem?_eq_getElem hl)
    rw [hv] at this
    exact ⟨b, rfl, by omega, hb, ra, rn, rc, this⟩
theorem FirstIs.mkR {P : Nat} {la : Option Addr} {lc : Nat} {l : List Int} {w X : World} {a : Option Addr} (h : FirstIs w P a) (r : MkR P la lc l w X) : FirstIs X P a := by
  obtain ⟨gb, rfl, h1, h2, ra, rn, rc, h3⟩ := h
  exact ⟨gb, rfl, h1, Nat.lt_of_lt_of_le h2 r.size, ra, rn, rc, r.2.cell h3 h1⟩
set_option maxHeartbeats 8000000 in
theorem grid_any {P : Nat} {la : Option Addr} {lc : Nat} {l : List Int} (w : World) (h : Mk P la lc l w) :
    Calls Try.prog 71 #[.pointer (some ⟨P, 0, none⟩)] w fun e w' => (∃ (a : Option Addr) (n c : Nat), e = .returned (.agg #[.slice a n c]) ∧ 0 < n ∧ FirstIs w' P a) ∧ MkR P la lc l w w' := by
  have HM := hidep h
  have HT := hidep (fun n X (hX : MkR P la lc l w X) => takeM_any n X (hX.mk h))
  have hr0 := MkR.refl h
  have hP := h.lt
  clear h
  go_enter Try.func71, Try.ntmps71
  go_upto_region 2 with (fail)
  refine wp_abs (fun X => X.heap[w.heap.size]? = some (.cells #[.slice none 0 0] 98) ∧ X.heap[w.heap.size + 1]? = some (.cells #[.slice none 0 0] 98) ∧ MkR P la lc l w X)
    ⟨allocs_get [.cells #[.slice none 0 0] 98, .cells #[.slice none 0 0] 98] w 0 _ rfl, allocs_get [.cells #[.slice none 0 0] 98, .cells #[.slice none 0 0] 98] w 1 _ rfl, (hr0.alloc _).alloc _⟩ ?_
  rintro X ⟨hq2, hq3, hrX⟩
  obtain ⟨B2, hB2⟩ : ∃ B2, B2 = w.heap.size := ⟨_, rfl⟩
  obtain ⟨B3, hB3⟩ : ∃ B3, B3 = w.heap.size + 1 := ⟨_, rfl⟩
  rw [← hB3] at hq3
  rw [← hB2] at hq2
  rw [← hB3, ← hB2]
  have HBB := hidep (show w.heap.size ≤ B2 ∧ w.heap.size ≤ B3 ∧ B2 ≠ B3 from by omega)
  have hB2P : B2 ≠ P := by omega
  have hB3P : B3 ≠ P := by omega
  clear hB2 hB3 hr0
  go_upto_region 4 with (first
    | (go_at_call 52; first | (refine (HT.out _ _ hrX).mono ?_; rintro e w1 ⟨⟨z1, rfl, hz0, hz1, _⟩, hr1⟩; have hz3 : z1 < 3 := hz1 (by decide); have hq21 := hr1.box hq2 hB2P; have hq31 := hr1.box hq3 hB3P; have hr1 := hrX.trans hr1; clear hrX) | (refine (HT.out _ _ hr1).mono ?_; rintro e w2 ⟨⟨z2, rfl, hy0, hy1, _⟩, hr2⟩; have hy3 : z2 < 3 := hy1 (by decide); have hq22 := hr2.box hq21 hB2P; have hq32 := hr2.box hq31 hB3P; have hr2 := hr1.trans hr2))
    | fail)
  obtain ⟨m, hm⟩ : ∃ m : Nat, 1 + z1 = (m : Int) := ⟨(1 + z1).toNat, by omega⟩
  obtain ⟨n, hn⟩ : ∃ n : Nat, 1 + z2 = (n : Int) := ⟨(1 + z2).toNat, by omega⟩
  have hm3 : 1 ≤ m ∧ m ≤ 3 := by omega
  have hn3 : n ≤ 3 := by omega
  rw [hm, hn]
  have HBL := hidep (show B2 < w2.heap.size ∧ B3 < w2.heap.size from ⟨lt_of_block hq22, lt_of_block hq32⟩)
  have hs2 := hr2.size
  clear hm hn hz0 hz1 hz3 hy0 hy1 hy3 hq2 hq3 hq21 hq31 hr1
  go_upto_region 5 with (fail)
  refine wp_loop (LoopI 37 (fun tm ds wr => (slot tm 0) = .pointer (some ⟨P, 0, none⟩) ∧ (slot tm 2) = .pointer (some ⟨B2, 0, none⟩) ∧ (slot tm 3) = .pointer (some ⟨B3, 0, none⟩) ∧ (slot tm 4) = .int .i64 (m : Nat) ∧ (slot tm 5) = .int .i64 (n : Nat) ∧ ds = [] ∧ GridI P la lc l w w2 B2 B3 (slot tm 6) wr)) (fun a' wr => 3 - (intOf (a'.tmps.getD 6 undef)).toNat) ?rowsStart ?rowsRound
  case' rowsStart => refine LoopI.mk rfl ?_
  case' rowsRound => (rintro ⟨t, ds⟩ wr ⟨hts, hrel⟩; dsimp only at hts hrel; rw [frame37 t ds hts])
  case rowsStart => exact ⟨rfl, rfl, rfl, rfl, rfl, rfl, 0, _, [], by omega, rfl, World.ownsRow_nil _ _ _ _, (by simp), hq32, hq22, Nat.le_refl _, hr2⟩
  clear hq32 hq22 hr2
  obtain ⟨h0, h2, h3, h4, h5, hds, i, rv, vs, hi, h6, hown, hvs, hq3, hq2, hsz, hrw⟩ := hrel
  subst hds
  obtain ⟨ra, rc, rfl, _, _⟩ := (Rd.of_own hown).form
  rw [h0, h2, h3, h4, h5, h6]
  clear h0 h2 h3 h4 h5 h6 hts
  by_cases hlt : i < m
  · have hlti : (i : Int) < (m : Int) := by omega
    obtain ⟨w1, hw1⟩ : ∃ w1 : World, w1 = wr := ⟨_, rfl⟩
    rw [← hw1] at hown hq3 hq2 hsz hrw
    have HM1 := hidep (hrw.mk HM.out)
    have HPH := hidep (fun Y (hY : MkR P la lc l w1 Y) => phrase_any Y (hY.mk HM1.out))
    have hr11 := MkR.refl HM1.out
    rw [← hw1]
    clear hw1
    go_upto_region 9 with (fail)
    refine wp_loop (LoopI 37 (fun tm ds wr => (slot tm 0) = .pointer (some ⟨P, 0, none⟩) ∧ (slot tm 2) = .pointer (some ⟨B2, 0, none⟩) ∧ (slot tm 3) = .pointer (some ⟨B3, 0, none⟩) ∧ (slot tm 4) = .int .i64 (m : Nat) ∧ (slot tm 5) = .int .i64 (n : Nat) ∧ (slot tm 6) = .int .i64 (i : Nat) ∧ ds = [] ∧ MkL P la lc l w1 9 1 n (slot tm 7) (slot tm 8) wr)) (fun a' wr => n - (intOf (a'.tmps.getD 8 undef)).toNat) ?colsStart ?colsRound
    case' colsStart => refine LoopI.mk rfl ?_
    case' colsRound => (rintro ⟨t, ds⟩ wr ⟨hts, hrel⟩; dsimp only at hts hrel; rw [frame37 t ds hts])
    case colsStart => exact ⟨rfl, rfl, rfl, rfl, rfl, rfl, rfl, 0, Nat.zero_le _, rfl, ⟨[], World.ownsRow_nil _ _ _ _⟩, hr11⟩
    clear hr11
    obtain ⟨h0, h2, h3, h4, h5, h6, hds, k, hk, h8, hrow, hrk⟩ := hrel
    subst hds
    obtain ⟨ka, kc, hkv, _, _⟩ := hrow.form
    rw [hkv] at hrow
    rw [h0, h2, h3, h4, h5, h6, h8, hkv]
    clear h0 h2 h3 h4 h5 h6 h8 hkv hts
    obtain ⟨xs, hrow⟩ := hrow
    have hP1 := HM1.out.lt
    have hsk := hrk.size
    by_cases hkl : k < n
    · have hkli : (k : Int) < (n : Int) := by omega
      have HOWN := hidep (fun Y (hY : MkR P la lc l wr Y) => hY.row hrow (by omega))
      have HRK := hidep hrk
      clear hrow
      go_wp2_with (first
        | (go_at_call 75; refine (HPH.out _ hrk).mono ?_; rintro e w3 ⟨⟨s, rfl⟩, hr3⟩; have hs3 := hr3.size; have hown3 := HOWN.out _ hr3; have hrk3 := HRK.out.trans hr3)
        | (at_builtin; refine wpList_append_rd _ rfl (.tmp 25) (.tmp 28) rfl slStrR w1.heap.size _ _ _ rfl (hown3.alloc _) _ _ _ _ rfl (Rd.fresh w3 #[.string s] 9 1 1 rfl (by decide)) (by intro u hu; simp at hu; rw [hu]; rfl) (by unfold maxLen; omega) (by omega) (by simp; omega) ?_; intro v2 w4 hown4 hgr4 hat4 hnl4; clear hat4 hnl4)
        | fail)
      have hend := (hrk3.alloc _).own HM1.out hgr4 (fun g hg => (hown3.lt g hg).1)
      refine ⟨LoopI.mk rfl ⟨rfl, rfl, rfl, rfl, rfl, rfl, rfl, k + 1, by omega, by show Value.int _ _ = _; go_num, ⟨_, hown4⟩, hend⟩, ?_⟩
      show n - _ < n - _
      simp [intOf]; omega
    · have hkli : ¬ (k : Int) < (n : Int) := by omega
      have hq3k := hrk.box hq3 hB3P
      have hq2k := hrk.box hq2 hB2P
      have hownk := hrk.row hown (by omega)
      have hrwk := hrw.trans hrk
      have hBL := HBL.out
      have hbw := HBB.out
      have y0 := box1_cell hq3k
      clear hrow hq3 hq2 hown hrw
      go_wp2_with (first
        | (at_builtin; refine wpList_append_rd _ rfl (.tmp 31) (.tmp 33) rfl slStrsR w2.heap.size _ _ _ rfl (hownk.alloc _) _ _ _ _ rfl (Rd.fresh wr #[.slice ka k kc] 83 1 1 rfl (by decide)) (by intro u hu; simp at hu; rw [hu]; rfl) (by unfold maxLen; omega) (by omega) (by simp; omega) ?_; intro v2 w4 hown4 hgr4 hat4 hnl4; clear hat4 hnl4; obtain ⟨va4, vc4, rfl, _, _⟩ := (Rd.of_own hown4).form; have hq3e := (hgr4.block B3 (by simp; omega) (fun e1 => by have := (hownk.lt B3 e1.symm).1; omega)).trans (below_push ((Below.refl _ _).alloc (Nat.le_refl _) _) hq3k); have hq2e := (hgr4.block B2 (by simp; omega) (fun e1 => by have := (hownk.lt B2 e1.symm).1; omega)).trans (below_push ((Below.refl _ _).alloc (Nat.le_refl _) _) hq2k); have ye := box1_cell hq3e; have fe := box_frozen hq3e 0)
        | fail)
      have hke := (hrwk.alloc _).own HM.out hgr4 (fun g hg => Nat.le_trans hs2 (hownk.lt g hg).1)
      have hse := hgr4.size
      simp only [World.size_alloc] at hse
      refine ⟨LoopI.mk rfl ⟨rfl, rfl, rfl, rfl, rfl, rfl, i + 1, .slice va4 (i + 1) vc4, _, by omega, by show Value.int _ _ = _; go_num, hown4.kept (grownBy_setC w4 B3 0 _) (.inr (fun e1 => by have := (hown4.lt B3 e1).1; omega)), fun v hv => ?_, heap_set hq3e 0 _, (Below.heap_setCell w4 ⟨B3, 0, none⟩ _ B2 hbw.2.2).trans hq2e, by simp [World.setCell]; omega, hke.set HM.out hbw.2.1⟩, ?_⟩
      · rcases List.mem_append.1 hv with h | h
        · exact hvs v h
        · have : v = .slice ka k kc := by simpa using h
          exact ⟨ka, k, kc, this⟩
      · show 3 - _ < 3 - _
        simp [intOf]; omega
  · have hlti : ¬ (i : Int) < (m : Int) := by omega
    have y0 := box1_cell hq3
    have z0 := box1_cell hq2
    have f0 := box_frozen hq2 0
    have hbw := HBB.out
    have hBL := HBL.out
    have hrs := hrw.set HM.out hbw.1 (o := 0) (v := .slice ra i rc)
    have hfi := first_own (P := P) hown (by omega) (by omega) hvs
    have HRS := hidep hrs
    have HFI := hidep hfi
    have HQ := hidep (heap_set hq2 0 (.slice ra i rc))
    have hB2g : ∀ gb : Nat, ra = some ⟨gb, 0, none⟩ → gb ≠ B2 := fun gb e1 e2 => by
      have h1 : (Value.slice ra i rc).ownBlock = some gb := by rw [e1]; rfl
      have := (hown.lt gb h1).1
      omega
    clear hrs hfi hown hvs
    go_wp2
    refine bodyPost_ret (results_cell1 rfl _ _ _ rfl (load_grid _ B2 _ (box1_cell HQ.out))) rfl ?_
    refine ⟨⟨ra, i, ⟨rc, rfl⟩, by omega, ?_⟩, HRS.out⟩
    obtain ⟨gb, e1, h1, h2, xa, xn, xc, h3⟩ := HFI.out
    refine ⟨gb, e1, h1, by simpa [World.setCell] using h2, xa, xn, xc, ?_⟩
    rw [← h3]
    exact (Turned.setCell (Turned.refl (fun b => b = B2) wr) ⟨B2, 0, none⟩ _ (.inr rfl)).cell h3 (hB2g gb e1) |>.trans h3.symm
end Go.Proofs.Ytfljgcpfmhhgcaa
