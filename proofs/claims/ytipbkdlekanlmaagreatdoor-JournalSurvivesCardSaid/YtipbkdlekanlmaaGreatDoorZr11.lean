/- Journal: the code's streams: Sum behind 56 bytes (printed by genk.py). -/
import Derived.Test.YtipbkdlekanlmaaGreatDoorZr10
import Derived.Laws.BytesArg
namespace Go.Proofs.YtipbkdlekanlmaaGreatDoor
open Go.RowKit Go.Lab Go.Disk
attribute [local go_sem] Oper.semAt_some
set_option maxRecDepth 100000
theorem range_map58 (f : Nat → Value) : (List.range 58).map f = [f 0, f 1, f 2, f 3, f 4, f 5, f 6, f 7, f 8, f 9, f 10, f 11, f 12, f 13, f 14, f 15, f 16, f 17, f 18, f 19, f 20, f 21, f 22, f 23, f 24, f 25, f 26, f 27, f 28, f 29, f 30, f 31, f 32, f 33, f 34, f 35, f 36, f 37, f 38, f 39, f 40, f 41, f 42, f 43, f 44, f 45, f 46, f 47, f 48, f 49, f 50, f 51, f 52, f 53, f 54, f 55, f 56, f 57] := rfl
theorem frame58 (t : Array Value) (ds : List Deferred) (h : t.size = 58) : ({ tmps := t, defers := ds } : Act) = { tmps := #[slot t 0, slot t 1, slot t 2, slot t 3, slot t 4, slot t 5, slot t 6, slot t 7, slot t 8, slot t 9, slot t 10, slot t 11, slot t 12, slot t 13, slot t 14, slot t 15, slot t 16, slot t 17, slot t 18, slot t 19, slot t 20, slot t 21, slot t 22, slot t 23, slot t 24, slot t 25, slot t 26, slot t 27, slot t 28, slot t 29, slot t 30, slot t 31, slot t 32, slot t 33, slot t 34, slot t 35, slot t 36, slot t 37, slot t 38, slot t 39, slot t 40, slot t 41, slot t 42, slot t 43, slot t 44, slot t 45, slot t 46, slot t 47, slot t 48, slot t 49, slot t 50, slot t 51, slot t 52, slot t 53, slot t 54, slot t 55, slot t 56, slot t 57], defers := ds } := by
  have e : t = ((List.range 58).map (slot t)).toArray := by
    apply Array.ext
    · simp [h]
    · intro i h1 h2
      simp [slot, Array.getD, h1]
  rw [range_map58] at e
  exact congrArg (fun x => ({ tmps := x, defers := ds } : Act)) e
theorem nums_str' : ∀ {xs : List Int}, (∀ x ∈ xs, 0 ≤ x ∧ x < 256) → nums (strOfNums xs) = xs
  | [], _ => rfl
  | x :: xs, h => by
    have ih := nums_str' (xs := xs) (fun y hy => h y (by simp [hy]))
    have hx := h x (by simp)
    unfold nums strOfNums at ih ⊢
    simp only [List.map_cons] at ih ⊢
    rw [ih]
    congr 1
    simp
    omega
def natI : Value → Nat
  | .int _ n => n.toNat
  | _ => 0
/-- Bytes of a row as a string. -/
theorem bytR_str {W : World} {v : Value} {l : List Int} (h : BytR W v l) (hl : 0 < l.length) : (convert 81 9 v).run Tryz.prog W = .ok (.string (strOfNums l)) W := by
  obtain ⟨a, c, rfl, hc, hm⟩ := h.1.form
  obtain ⟨b, off, rfl, hb, hcell⟩ := Rd.at h.1 hl
  exact run_convert_bytes_arg (P := Tryz.prog) W 81 5 (by kernel_rfl) (by kernel_rfl) b off l.length c l rfl (fun i hi => by
    have := hcell i _ (byC_get l i hi)
    simpa using this) 9 (by kernel_rfl)
theorem own_lit {X : World} {B g : Nat} {xs : List Value} {e : TypeId} (hX : X.heap[g]? = some (.cells xs.toArray e)) (hB : B ≤ g) (hx : xs.length ≤ 1000) : X.ownsRow B e 1 (.slice (some ⟨g, 0, none⟩) xs.length xs.length) xs.length xs :=
  ⟨by simp, .inr ⟨g, xs.length, xs.toArray, rfl, hB, hX, Nat.le_refl _, by unfold maxLen; omega, by simp, by simp⟩⟩
def PadS (bl : List Int) (w : World) (B1 B2 : Nat) (v : Value) (wr : World) : Prop := ∃ z : Nat, z ≤ 63 ∧ wr.ownsRow w.heap.size 5 1 v (1 + z) (byC ([128] ++ List.replicate z 0)) ∧ wr.heap[B1]? = some (.cells (strC iv0 bl (56 : Nat)).toArray 148) ∧ wr.heap[B2]? = some (.cells (byC (List.replicate 32 0)).toArray 125) ∧ Below w.heap.size w wr
def PadT (bl : List Int) (w : World) (B1 B2 : Nat) (s v : Value) (wr : World) : Prop := ∃ i : Nat, i ≤ 8 ∧ s = .int .i64 (i : Nat) ∧ wr.ownsRow w.heap.size 5 1 v (64 + i) (byC ([128] ++ List.replicate 63 0 ++ ([0, 0, 0, 0, 0, 0, 1, 192] : List Int).take i)) ∧ wr.heap[B1]? = some (.cells (strC iv0 bl (56 : Nat)).toArray 148) ∧ wr.heap[B2]? = some (.cells (byC (List.replicate 32 0)).toArray 125) ∧ Below w.heap.size w wr
def OutS (s : Sv) (bl : List Int) (w : World) (B1 B2 B6 : Nat) (sv : Value) (wr : World) : Prop := ∃ i : Nat, i ≤ 32 ∧ sv = .int .i64 (i : Nat) ∧ wr.heap[B6]? = some (.cells (byC (halfB s i)).toArray 125) ∧ wr.heap[B1]? = some (.cells (strC s bl (128 : Nat)).toArray 148) ∧ wr.heap[B2]? = some (.cells (byC (List.replicate 32 0)).toArray 125) ∧ Below w.heap.size w wr
theorem half_sum (l : List Int) : halfB (compZ' ks0 (compZ' ks0 iv0 (l ++ tail56.take 8)) (tail56.drop 8)) 32 = sha56 l := by
  unfold halfB sha56
  rw [Nat.sub_self, List.replicate_zero, List.append_nil]
theorem str_len72 {W : World} {b : Nat} {s : Sv} {bl : List Int} {n : Int} {t : TypeId} {fz : Nat × Nat} (h : W.heap[b]? = some (.cells (strC s bl n).toArray t fz)) (h64 : bl.length = 64) : W.cell? ⟨b, 72, none⟩ = some (.int .u64 n) := by
  have hi0 : (strC s bl n)[72]? = some (.int .u64 n) := by
    rw [strC_parts, List.getElem?_append_right (by rw [u32C_eight]; omega), u32C_eight, List.getElem?_append_right (by rw [byC_length]; omega), byC_length, h64]
    rfl
  simp only [World.cell?, h]
  simpa using hi0
theorem str_word {W : World} {b : Nat} {s : Sv} {bl : List Int} {n : Int} {t : TypeId} {fz : Nat × Nat} (h : W.heap[b]? = some (.cells (strC s bl n).toArray t fz)) {q : Nat} (hq : q < 8) : W.cell? ⟨b, q, none⟩ = some (.int .u32 (wz (s.toList.getD q 0))) := by
  have h0 := range_state h q (.int .u32 (wz (s.toList.getD q 0))) (by
    have hl : q < s.toList.length := hq
    simp [u32C, List.getD, hl])
  rwa [Nat.zero_add] at h0
set_option maxHeartbeats 20000000 in
theorem sumS_any (l : List Int) (w : World) (h56 : l.length = 56) (hlr : ∀ x ∈ l, 0 ≤ x ∧ x < 256) (hk : w.rangeAt 2 0 (u32C ks0)) :
    Calls Tryz.prog 94 #[.agg (strC iv0 (l ++ List.replicate 8 0) (56 : Nat)).toArray] w fun e w' => e = .returned (.agg (byC (sha56 l)).toArray) ∧ Below w.heap.size w w' := by
  obtain ⟨bl, hbl⟩ : ∃ bl, bl = l ++ List.replicate 8 (0 : Int) := ⟨_, rfl⟩
  have hb64 : bl.length = 64 := by rw [hbl]; simp [h56]
  have hbr : ∀ x ∈ bl, 0 ≤ x ∧ x < 256 := by
    intro x hx
    rw [hbl] at hx
    rcases List.mem_append.1 hx with h | h
    · exact hlr x h
    · rw [(List.mem_replicate.1 h).2]; decide
  rw [← hbl]
  have HBL := hidep (And.intro hbl (And.intro hb64 hbr))
  have HK := hidep hk
  have HL := hidep (And.intro h56 hlr)
  clear hk hbl hbr h56 hlr
  go_enter Tryz.func94, Tryz.ntmps94
  go_upto_region 1 with (first
    | (refine wpList_alloc_row (o := ⟨some 2, _, _, _, _, _⟩) zero_u8x32 _ rfl rfl ?_)
    | fail)
  refine wp_abs (fun X => X.heap[w.heap.size]? = some (.cells (strC iv0 bl (56 : Nat)).toArray 148) ∧ X.heap[w.heap.size + 1]? = some (.cells (byC (List.replicate 32 0)).toArray 125) ∧ Below w.heap.size w X)
    ⟨allocs_get [.cells (strC iv0 bl (56 : Nat)).toArray 148, .cells (byC (List.replicate 32 0)).toArray 125] w 0 _ rfl, allocs_get [.cells (strC iv0 bl (56 : Nat)).toArray 148, .cells (byC (List.replicate 32 0)).toArray 125] w 1 _ rfl, ((Below.refl _ _).alloc (Nat.le_refl _) _).alloc (by simp) _⟩ ?_
  rintro X ⟨hq1, hq2, hbX⟩
  simp only [World.size_alloc]
  obtain ⟨B1, hB1⟩ : ∃ B1, B1 = w.heap.size := ⟨_, rfl⟩
  obtain ⟨B2, hB2⟩ : ∃ B2, B2 = w.heap.size + 1 := ⟨_, rfl⟩
  rw [← hB2] at hq2
  rw [← hB1] at hq1
  rw [← hB2, ← hB1]
  have HBB := hidep (show w.heap.size ≤ B1 ∧ w.heap.size ≤ B2 ∧ B1 ≠ B2 from by omega)
  clear hB1 hB2
  have hc72 := str_len72 hq1 hb64
  have hsX := hbX.size
  have hlit : (X.alloc (.cells #[.int .u8 128] 5)).ownsRow w.heap.size 5 1 (.slice (some ⟨X.heap.size, 0, none⟩) 1 1) 1 (byC ([128] ++ List.replicate 0 0)) := own_lit (xs := [.int .u8 128]) (heap_alloc_new _ _) hsX (by decide)
  have hq1 := below_push ((Below.refl X.heap.size X).alloc (Nat.le_refl _) (.cells #[.int .u8 128] 5)) hq1
  have hq2 := below_push ((Below.refl X.heap.size X).alloc (Nat.le_refl _) (.cells #[.int .u8 128] 5)) hq2
  have hbA := hbX.alloc hsX (.cells #[.int .u8 128] 5)
  clear hbX hsX
  go_upto_region 3 with (fail)
  refine wp_loop (LoopI 58 (fun tm ds wr => (slot tm 1) = .pointer (some ⟨B1, 0, none⟩) ∧ (slot tm 2) = .pointer (some ⟨B2, 0, none⟩) ∧ (slot tm 3) = v448 ∧ ds = [] ∧ PadS bl w B1 B2 (slot tm 4) wr)) (fun a' wr => 200 - lenV (a'.tmps.getD 4 undef)) ?zerosStart ?zerosRound
  case' zerosStart => refine LoopI.mk rfl ?_
  case' zerosRound => (rintro ⟨t, ds⟩ wr ⟨hts, hrel⟩; dsimp only at hts hrel; rw [frame58 t ds hts])
  case zerosStart => exact ⟨rfl, rfl, rfl, rfl, 0, Nat.zero_le _, hlit, hq1, hq2, hbA⟩
  clear hlit hq1 hq2 hbA hc72
  obtain ⟨h1, h2, h3, hds, z, hz, hown, hq1, hq2, hbw⟩ := hrel
  subst hds
  obtain ⟨za, zc, hv, _, _⟩ := (Rd.of_own hown).form
  rw [hv] at hown
  rw [h1, h2, h3, hv]
  unfold v448
  clear h1 h2 h3 hv hts
  have hsw := hbw.size
  have hc72 := str_len72 hq1 hb64
  have hwz : IntKind.i64.wrap ((56 : Int) + ((1 + z : Nat) : Int)) = ((57 + z : Nat) : Int) := by rw [IntWalk.i64_in _ (by omega)]; omega
  by_cases hz63 : z < 63
  · have hm64 : ¬ ((57 + z : Nat) : Int) % 64 = 56 := by omega
    have hownA := fun o => own_below hown (Below.alloc (Below.refl wr.heap.size wr) (Nat.le_refl _) o)
    have hq1A := fun o => below_push ((Below.refl wr.heap.size wr).alloc (Nat.le_refl _) o) hq1
    have hq2A := fun o => below_push ((Below.refl wr.heap.size wr).alloc (Nat.le_refl _) o) hq2
    go_wp2_with (first
      | (at_builtin; refine wpList_append_rd _ rfl (.tmp 20) (.tmp 21) rfl slByteR w.heap.size _ _ _ rfl (hownA _) _ _ _ _ rfl (Rd.fresh wr #[.int .u8 0] 5 1 1 rfl (by decide)) (by intro u hu; simp at hu; subst hu; rfl) (by unfold maxLen; omega) (by omega) (by simp; omega) ?_; intro v3 w3 hown3 hgr3 hat3 hnl3; clear hat3 hnl3; have hr1 := grown_other (hownA _) hgr3 (hq1A _) (by decide); have hr2 := grown_other (hownA _) hgr3 (hq2A _) (by decide); have hb3 : Below w.heap.size w w3 := (hbw.alloc hsw _).grown hgr3 (by simp; omega) (fun g hg => ((hownA (.cells #[] 0)).lt g hg).1))
      | fail)
    have e4 : byC ([128] ++ List.replicate z 0) ++ [Value.int .u8 0] = byC ([128] ++ List.replicate (z + 1) 0) := by
      rw [List.replicate_succ', ← List.append_assoc, byC_snoc]
    refine ⟨LoopI.mk rfl ⟨rfl, rfl, rfl, rfl, z + 1, by omega, by rw [← e4]; exact hown3, hr1, hr2, hb3⟩, ?_⟩
    obtain ⟨ya, yc, hv3, _, _⟩ := (Rd.of_own hown3).form
    rw [hv3]
    show 200 - _ < 200 - _
    simp [lenV]; omega
  · have hz64 : z = 63 := by omega
    subst hz64
    have hm64 : ((57 + 63 : Nat) : Int) % 64 = 56 := by decide
    go_upto_region 6 with (fail)
    have e5 : byC ([128] ++ List.replicate 63 0) = byC ([128] ++ List.replicate 63 0 ++ ([0, 0, 0, 0, 0, 0, 1, 192] : List Int).take 0) := by rw [List.take_zero, List.append_nil]
    obtain ⟨pre, hpre⟩ : ∃ pre : List Int, pre = [128] ++ List.replicate 63 0 := ⟨_, rfl⟩
    rw [e5] at hown
    clear e5 hc72 hwz hm64
    refine wp_loop (LoopI 58 (fun tm ds wr => (slot tm 1) = .pointer (some ⟨B1, 0, none⟩) ∧ (slot tm 2) = .pointer (some ⟨B2, 0, none⟩) ∧ (slot tm 3) = v448 ∧ ds = [] ∧ PadT bl w B1 B2 (slot tm 23) (slot tm 4) wr)) (fun a' wr => 8 - natI (a'.tmps.getD 23 undef)) ?tailStart ?tailRound
    case' tailStart => refine LoopI.mk rfl ?_
    case' tailRound => (rintro ⟨t, ds⟩ wr ⟨hts, hrel⟩; dsimp only at hts hrel; rw [frame58 t ds hts])
    case tailStart => exact ⟨rfl, rfl, rfl, rfl, 0, Nat.zero_le _, rfl, hown, hq1, hq2, hbw⟩
    clear hown hbw hsw hq1 hq2
    obtain ⟨h1, h2, h3, hds, i, hi, h5, hown, hq1, hq2, hbw⟩ := hrel
    subst hds
    obtain ⟨ya, yc, hv, _, _⟩ := (Rd.of_own hown).form
    rw [hv, ← hpre] at hown
    rw [h1, h2, h3, h5, hv]
    unfold v448
    clear h1 h2 h3 h5 hv hts
    have hsw := hbw.size
    have HPRE := hidep hpre
    clear hpre
    by_cases hi8 : i < 8
    · clear hi
      have hownA := fun o => own_below hown (Below.alloc (Below.refl wr.heap.size wr) (Nat.le_refl _) o)
      have hq1A := fun o => below_push ((Below.refl wr.heap.size wr).alloc (Nat.le_refl _) o) hq1
      have hq2A := fun o => below_push ((Below.refl wr.heap.size wr).alloc (Nat.le_refl _) o) hq2
      rcases (by omega : i = 0 ∨ i = 1 ∨ i = 2 ∨ i = 3 ∨ i = 4 ∨ i = 5 ∨ i = 6 ∨ i = 7) with rfl | rfl | rfl | rfl | rfl | rfl | rfl | rfl
      · go_wp2_with (first
          | (at_builtin; refine wpList_append_rd _ rfl (.tmp 26) (.tmp 33) rfl slByteR w.heap.size _ _ _ rfl (hownA _) _ _ _ _ rfl (Rd.fresh wr _ 5 1 1 rfl (by decide)) (by intro u hu; simp at hu; subst hu; rfl) (by unfold maxLen; omega) (by omega) (by simp; omega) ?_; intro v3 w3 hown3 hgr3 hat3 hnl3; clear hat3 hnl3; have hr1 := grown_other (hownA _) hgr3 (hq1A _) (by decide); have hr2 := grown_other (hownA _) hgr3 (hq2A _) (by decide); have hb3 : Below w.heap.size w w3 := (hbw.alloc hsw _).grown hgr3 (by simp; omega) (fun g hg => ((hownA (.cells #[] 0)).lt g hg).1))
          | fail)
        refine ⟨LoopI.mk rfl ⟨rfl, rfl, rfl, rfl, 1, by omega, rfl, by rw [← HPRE.out, show byC (pre ++ ([0, 0, 0, 0, 0, 0, 1, 192] : List Int).take 1) = byC (pre ++ ([0, 0, 0, 0, 0, 0, 1, 192] : List Int).take 0) ++ [.int .u8 0] from by simp [byC]]; exact hown3, hr1, hr2, hb3⟩, ?_⟩
        show 8 - _ < 8 - _
        simp [natI]
      · go_wp2_with (first
          | (at_builtin; refine wpList_append_rd _ rfl (.tmp 26) (.tmp 33) rfl slByteR w.heap.size _ _ _ rfl (hownA _) _ _ _ _ rfl (Rd.fresh wr _ 5 1 1 rfl (by decide)) (by intro u hu; simp at hu; subst hu; rfl) (by unfold maxLen; omega) (by omega) (by simp; omega) ?_; intro v3 w3 hown3 hgr3 hat3 hnl3; clear hat3 hnl3; have hr1 := grown_other (hownA _) hgr3 (hq1A _) (by decide); have hr2 := grown_other (hownA _) hgr3 (hq2A _) (by decide); have hb3 : Below w.heap.size w w3 := (hbw.alloc hsw _).grown hgr3 (by simp; omega) (fun g hg => ((hownA (.cells #[] 0)).lt g hg).1))
          | fail)
        refine ⟨LoopI.mk rfl ⟨rfl, rfl, rfl, rfl, 2, by omega, rfl, by rw [← HPRE.out, show byC (pre ++ ([0, 0, 0, 0, 0, 0, 1, 192] : List Int).take 2) = byC (pre ++ ([0, 0, 0, 0, 0, 0, 1, 192] : List Int).take 1) ++ [.int .u8 0] from by simp [byC]]; exact hown3, hr1, hr2, hb3⟩, ?_⟩
        show 8 - _ < 8 - _
        simp [natI]
      · go_wp2_with (first
          | (at_builtin; refine wpList_append_rd _ rfl (.tmp 26) (.tmp 33) rfl slByteR w.heap.size _ _ _ rfl (hownA _) _ _ _ _ rfl (Rd.fresh wr _ 5 1 1 rfl (by decide)) (by intro u hu; simp at hu; subst hu; rfl) (by unfold maxLen; omega) (by omega) (by simp; omega) ?_; intro v3 w3 hown3 hgr3 hat3 hnl3; clear hat3 hnl3; have hr1 := grown_other (hownA _) hgr3 (hq1A _) (by decide); have hr2 := grown_other (hownA _) hgr3 (hq2A _) (by decide); have hb3 : Below w.heap.size w w3 := (hbw.alloc hsw _).grown hgr3 (by simp; omega) (fun g hg => ((hownA (.cells #[] 0)).lt g hg).1))
          | fail)
        refine ⟨LoopI.mk rfl ⟨rfl, rfl, rfl, rfl, 3, by omega, rfl, by rw [← HPRE.out, show byC (pre ++ ([0, 0, 0, 0, 0, 0, 1, 192] : List Int).take 3) = byC (pre ++ ([0, 0, 0, 0, 0, 0, 1, 192] : List Int).take 2) ++ [.int .u8 0] from by simp [byC]]; exact hown3, hr1, hr2, hb3⟩, ?_⟩
        show 8 - _ < 8 - _
        simp [natI]
      · go_wp2_with (first
          | (at_builtin; refine wpList_append_rd _ rfl (.tmp 26) (.tmp 33) rfl slByteR w.heap.size _ _ _ rfl (hownA _) _ _ _ _ rfl (Rd.fresh wr _ 5 1 1 rfl (by decide)) (by intro u hu; simp at hu; subst hu; rfl) (by unfold maxLen; omega) (by omega) (by simp; omega) ?_; intro v3 w3 hown3 hgr3 hat3 hnl3; clear hat3 hnl3; have hr1 := grown_other (hownA _) hgr3 (hq1A _) (by decide); have hr2 := grown_other (hownA _) hgr3 (hq2A _) (by decide); have hb3 : Below w.heap.size w w3 := (hbw.alloc hsw _).grown hgr3 (by simp; omega) (fun g hg => ((hownA (.cells #[] 0)).lt g hg).1))
          | fail)
        refine ⟨LoopI.mk rfl ⟨rfl, rfl, rfl, rfl, 4, by omega, rfl, by rw [← HPRE.out, show byC (pre ++ ([0, 0, 0, 0, 0, 0, 1, 192] : List Int).take 4) = byC (pre ++ ([0, 0, 0, 0, 0, 0, 1, 192] : List Int).take 3) ++ [.int .u8 0] from by simp [byC]]; exact hown3, hr1, hr2, hb3⟩, ?_⟩
        show 8 - _ < 8 - _
        simp [natI]
      · go_wp2_with (first
          | (at_builtin; refine wpList_append_rd _ rfl (.tmp 26) (.tmp 33) rfl slByteR w.heap.size _ _ _ rfl (hownA _) _ _ _ _ rfl (Rd.fresh wr _ 5 1 1 rfl (by decide)) (by intro u hu; simp at hu; subst hu; rfl) (by unfold maxLen; omega) (by omega) (by simp; omega) ?_; intro v3 w3 hown3 hgr3 hat3 hnl3; clear hat3 hnl3; have hr1 := grown_other (hownA _) hgr3 (hq1A _) (by decide); have hr2 := grown_other (hownA _) hgr3 (hq2A _) (by decide); have hb3 : Below w.heap.size w w3 := (hbw.alloc hsw _).grown hgr3 (by simp; omega) (fun g hg => ((hownA (.cells #[] 0)).lt g hg).1))
          | fail)
        refine ⟨LoopI.mk rfl ⟨rfl, rfl, rfl, rfl, 5, by omega, rfl, by rw [← HPRE.out, show byC (pre ++ ([0, 0, 0, 0, 0, 0, 1, 192] : List Int).take 5) = byC (pre ++ ([0, 0, 0, 0, 0, 0, 1, 192] : List Int).take 4) ++ [.int .u8 0] from by simp [byC]]; exact hown3, hr1, hr2, hb3⟩, ?_⟩
        show 8 - _ < 8 - _
        simp [natI]
      · go_wp2_with (first
          | (at_builtin; refine wpList_append_rd _ rfl (.tmp 26) (.tmp 33) rfl slByteR w.heap.size _ _ _ rfl (hownA _) _ _ _ _ rfl (Rd.fresh wr _ 5 1 1 rfl (by decide)) (by intro u hu; simp at hu; subst hu; rfl) (by unfold maxLen; omega) (by omega) (by simp; omega) ?_; intro v3 w3 hown3 hgr3 hat3 hnl3; clear hat3 hnl3; have hr1 := grown_other (hownA _) hgr3 (hq1A _) (by decide); have hr2 := grown_other (hownA _) hgr3 (hq2A _) (by decide); have hb3 : Below w.heap.size w w3 := (hbw.alloc hsw _).grown hgr3 (by simp; omega) (fun g hg => ((hownA (.cells #[] 0)).lt g hg).1))
          | fail)
        refine ⟨LoopI.mk rfl ⟨rfl, rfl, rfl, rfl, 6, by omega, rfl, by rw [← HPRE.out, show byC (pre ++ ([0, 0, 0, 0, 0, 0, 1, 192] : List Int).take 6) = byC (pre ++ ([0, 0, 0, 0, 0, 0, 1, 192] : List Int).take 5) ++ [.int .u8 0] from by simp [byC]]; exact hown3, hr1, hr2, hb3⟩, ?_⟩
        show 8 - _ < 8 - _
        simp [natI]
      · go_wp2_with (first
          | (at_builtin; refine wpList_append_rd _ rfl (.tmp 26) (.tmp 33) rfl slByteR w.heap.size _ _ _ rfl (hownA _) _ _ _ _ rfl (Rd.fresh wr _ 5 1 1 rfl (by decide)) (by intro u hu; simp at hu; subst hu; rfl) (by unfold maxLen; omega) (by omega) (by simp; omega) ?_; intro v3 w3 hown3 hgr3 hat3 hnl3; clear hat3 hnl3; have hr1 := grown_other (hownA _) hgr3 (hq1A _) (by decide); have hr2 := grown_other (hownA _) hgr3 (hq2A _) (by decide); have hb3 : Below w.heap.size w w3 := (hbw.alloc hsw _).grown hgr3 (by simp; omega) (fun g hg => ((hownA (.cells #[] 0)).lt g hg).1))
          | fail)
        refine ⟨LoopI.mk rfl ⟨rfl, rfl, rfl, rfl, 7, by omega, rfl, by rw [← HPRE.out, show byC (pre ++ ([0, 0, 0, 0, 0, 0, 1, 192] : List Int).take 7) = byC (pre ++ ([0, 0, 0, 0, 0, 0, 1, 192] : List Int).take 6) ++ [.int .u8 1] from by simp [byC]]; exact hown3, hr1, hr2, hb3⟩, ?_⟩
        show 8 - _ < 8 - _
        simp [natI]
      · go_wp2_with (first
          | (at_builtin; refine wpList_append_rd _ rfl (.tmp 26) (.tmp 33) rfl slByteR w.heap.size _ _ _ rfl (hownA _) _ _ _ _ rfl (Rd.fresh wr _ 5 1 1 rfl (by decide)) (by intro u hu; simp at hu; subst hu; rfl) (by unfold maxLen; omega) (by omega) (by simp; omega) ?_; intro v3 w3 hown3 hgr3 hat3 hnl3; clear hat3 hnl3; have hr1 := grown_other (hownA _) hgr3 (hq1A _) (by decide); have hr2 := grown_other (hownA _) hgr3 (hq2A _) (by decide); have hb3 : Below w.heap.size w w3 := (hbw.alloc hsw _).grown hgr3 (by simp; omega) (fun g hg => ((hownA (.cells #[] 0)).lt g hg).1))
          | fail)
        refine ⟨LoopI.mk rfl ⟨rfl, rfl, rfl, rfl, 8, by omega, rfl, by rw [← HPRE.out, show byC (pre ++ ([0, 0, 0, 0, 0, 0, 1, 192] : List Int).take 8) = byC (pre ++ ([0, 0, 0, 0, 0, 0, 1, 192] : List Int).take 7) ++ [.int .u8 192] from by simp [byC]]; exact hown3, hr1, hr2, hb3⟩, ?_⟩
        show 8 - _ < 8 - _
        simp [natI]
    · have hi9 : i = 8 := by omega
      subst hi9
      have hpl : pre ++ ([0, 0, 0, 0, 0, 0, 1, 192] : List Int).take 8 = tail56 := by rw [HPRE.out]; rfl
      rw [hpl] at hown
      have hT72 : (strOfNums tail56).size = 72 := by rw [strOfNums_size]; rfl
      have hNT : nums (strOfNums tail56) = tail56 := nums_str' (show ∀ x ∈ tail56, 0 ≤ x ∧ x < 256 from by decide)
      have hcv : BytR wr (.slice ya 72 yc) tail56 := ⟨(Rd.of_own hown).mono (fun _ _ => trivial), show ∀ x ∈ tail56, 0 ≤ x ∧ x < 256 from by decide⟩
      obtain ⟨TS, hTS⟩ : ∃ T, T = strOfNums tail56 := ⟨_, rfl⟩
      have hcv := bytR_str hcv (by decide)
      rw [← hTS] at hcv hNT hT72
      obtain ⟨S2, hS2⟩ : ∃ S2, S2 = compZ' ks0 (compZ' ks0 iv0 (l ++ tail56.take 8)) (tail56.drop 8) := ⟨_, rfl⟩
      obtain ⟨bl2, hbl2⟩ : ∃ b2, b2 = tail56.drop 8 := ⟨_, rfl⟩
      have hb2l : bl2.length = 64 := by rw [hbl2]; rfl
      have hadd := add_tail l HL.out.1 70
      rw [← HBL.out.1, ← hS2, ← hbl2] at hadd
      have HAD := hidep (show ∀ W, Below w.heap.size w W → Calls Tryz.prog 93 #[.agg (strC iv0 bl (56 : Nat)).toArray, .string TS] W fun e w' => e = .returned (.agg (strC S2 bl2 (128 : Nat)).toArray) ∧ Below W.heap.size W w' from fun W hW => by
        have h := add_any iv0 bl 56 TS 72 W (by omega) HBL.out.2.1 HBL.out.2.2 (by omega) (fun j v hv => by
          have hlt : (2 : Nat) < w.heap.size := World.block_lt_of_cell? w ⟨2, 0 + j, none⟩ (HK.out j v hv)
          exact (hW.cell (p := ⟨2, 0 + j, none⟩) hlt).trans (HK.out j v hv))
        rw [hNT, hadd] at h
        exact h)
      have HS2 := hidep hS2
      have HB2 := hidep (And.intro hbl2 hb2l)
      have hl73 : (strC iv0 bl (56 : Nat)).length = 73 := strC_len _ _ _ HBL.out.2.1
      have hl73' : (strC S2 bl2 (128 : Nat)).length = 73 := strC_len _ _ _ hb2l
      have HLD := hidep (range_of_arr hq1)
      have HI1 := hidep (show (Tryz.prog.info? 148).map (·.size) = some (strC iv0 bl (56 : Nat)).length from by rw [hl73]; exact row_stream.2)
      have HI2 := hidep (show (Tryz.prog.info? 148).map (·.size) = some (strC S2 bl2 (128 : Nat)).toArray.size from by rw [List.size_toArray, hl73']; exact row_stream.2)
      have HO2 := hidep (all_oneCell_toArray (strC_one S2 bl2 (128 : Nat)))
      have HST := hidep (show ∀ W, Below wr.heap.size wr W → W.there B1 0 (strC S2 bl2 (128 : Nat)).toArray.size ∧ (W.setCells B1 0 (strC S2 bl2 (128 : Nat))).heap[B1]? = some (.cells (strC S2 bl2 (128 : Nat)).toArray 148) ∧ (W.setCells B1 0 (strC S2 bl2 (128 : Nat))).heap[B2]? = some (.cells (byC (List.replicate 32 0)).toArray 125) ∧ Below w.heap.size w (W.setCells B1 0 (strC S2 bl2 (128 : Nat))) from by
        intro W hW
        have g1 := below_push hW hq1
        have g2 := below_push hW hq2
        refine ⟨there_of_arr g1 (by rw [List.size_toArray, List.size_toArray, hl73, hl73']; exact Nat.le_refl _), ?_, (setCells_other (Ne.symm HBB.out.2.2) _ _ _).trans g2, below_setCells B1 HBB.out.1 _ _ _ (hbw.trans (hW.mono hbw.size))⟩
        rw [heap_setCells (strC S2 bl2 (128 : Nat)) 0 W _ g1 (by rw [hl73, hl73']; omega)]
        congr 2
        rw [hl73', List.take_zero, List.nil_append, List.drop_eq_nil_of_le (by omega), List.append_nil])
      clear hNT hT72 hadd hown hTS hS2 hbl2 hb2l hl73 hl73' hpl hq1 hq2
      go_upto_region 10 with (fail)
      refine wp_region_lit ?_
      refine wpList_load_mid (op := ⟨some 36, _, _, _, _, _⟩) rfl 148 _ rfl B1 0 rfl _ _ HLD.out row_stream.1.choose_spec.1 row_stream.1.choose_spec.2 HI1.out ?_
      go_upto_region 11 with (first
        | (go_at_call 93; refine (HAD.out _ hbw).mono ?_; rintro e w4 ⟨rfl, hb4⟩)
        | (refine wpList_store_to (op := ⟨none, _, _, _, _, _⟩) rfl 148 _ _ rfl B1 0 (strC S2 bl2 (128 : Nat)).toArray rfl rfl (HST.out _ hb4).1 HI2.out HO2.out _ rfl ?_)
        | fail)
      obtain ⟨_, hq1, hq2, hbw⟩ := HST.out _ hb4
      refine wp_abs (fun X => X.heap[B1]? = some (.cells (strC S2 bl2 (128 : Nat)).toArray 148) ∧ X.heap[B2]? = some (.cells (byC (List.replicate 32 0)).toArray 125) ∧ Below w.heap.size w X) ⟨hq1, hq2, hbw⟩ ?_
      clear hq1 hq2 hbw hb4 hcv HAD HLD HI1 HI2 HO2 HST
      rintro X ⟨hq1, hq2, hbw⟩
      go_upto_region 12 with (first
        | (refine wpList_alloc_row (o := ⟨some 6, _, _, _, _, _⟩) zero_u8x32 _ rfl rfl ?_)
        | fail)
      refine wp_abs (fun Y => Y.heap[X.heap.size]? = some (.cells (byC (halfB S2 0)).toArray 125) ∧ Y.heap[B1]? = some (.cells (strC S2 bl2 (128 : Nat)).toArray 148) ∧ Y.heap[B2]? = some (.cells (byC (List.replicate 32 0)).toArray 125) ∧ Below w.heap.size w Y)
        ⟨heap_alloc_new _ _, below_push ((Below.refl _ _).alloc (Nat.le_refl _) _) hq1, below_push ((Below.refl _ _).alloc (Nat.le_refl _) _) hq2, hbw.alloc hbw.size _⟩ ?_
      have hl1 := lt_of_block hq1
      have hl2 := lt_of_block hq2
      have hsw := hbw.size
      obtain ⟨B6, hB6⟩ : ∃ B6, B6 = X.heap.size := ⟨_, rfl⟩
      rw [← hB6]
      have HB6 := hidep (show B2 ≠ B6 ∧ B1 ≠ B6 ∧ w.heap.size ≤ B6 from by omega)
      clear hB6 hl1 hl2 hsw hq1 hq2 hbw
      rintro X2 ⟨hq6, hq1, hq2, hbw⟩
      go_upto_region 13 with (fail)
      refine wp_loop (LoopI 58 (fun tm ds wr => (slot tm 1) = .pointer (some ⟨B1, 0, none⟩) ∧ (slot tm 2) = .pointer (some ⟨B2, 0, none⟩) ∧ (slot tm 6) = .pointer (some ⟨B6, 0, none⟩) ∧ ds = [] ∧ OutS S2 bl2 w B1 B2 B6 (slot tm 40) wr)) (fun a' wr => 32 - natI (a'.tmps.getD 40 undef)) ?outsStart ?outsRound
      case' outsStart => refine LoopI.mk rfl ?_
      case' outsRound => (rintro ⟨t, ds⟩ wr ⟨hts, hrel⟩; dsimp only at hts hrel; rw [frame58 t ds hts])
      case outsStart => exact ⟨rfl, rfl, rfl, rfl, 0, Nat.zero_le _, rfl, hq6, hq1, hq2, hbw⟩
      clear hq6 hq1 hq2 hbw
      obtain ⟨h1, h2, h6, hds, i, hi, h40, hq6, hq1, hq2, hbw⟩ := hrel
      subst hds
      rw [h1, h2, h6, h40]
      clear h1 h2 h6 h40 hts
      by_cases hi32 : i < 32
      · have hii : (i : Int) < 32 := by omega
        obtain ⟨q, hq⟩ : ∃ q : Nat, q = i / 4 := ⟨_, rfl⟩
        obtain ⟨r, hr⟩ : ∃ r : Nat, r = i % 4 := ⟨_, rfl⟩
        have hqi : (i : Int) / 4 = (q : Int) := by omega
        have hri : (i : Int) % 4 = (r : Int) := by omega
        have hqt : Int.tdiv (i : Int) 4 = (q : Int) := by rw [Int.tdiv_eq_ediv_of_nonneg (by omega)]; exact hqi
        have hrt : Int.tmod (i : Int) 4 = (r : Int) := by rw [Int.tmod_eq_emod_of_nonneg (by omega)]; exact hri
        have hq8 : (q : Int) < 8 := by omega
        have hr4 : r < 4 := by omega
        have hw8 : IntKind.i64.wrap (8 * (r : Int)) = ((8 * r : Nat) : Int) := by rw [IntWalk.i64_in _ (by omega)]; omega
        have hw24 : IntKind.i64.wrap (24 - ((8 * r : Nat) : Int)) = ((24 - 8 * r : Nat) : Int) := by rw [IntWalk.i64_in _ (by omega)]; omega
        have hmin : min (24 - 8 * r) 32 = 24 - 8 * r := by omega
        have y0 := str_word hq1 (q := q) (by omega)
        obtain ⟨sw, hsw⟩ : ∃ x, x = S2.toList.getD q 0 := ⟨_, rfl⟩
        rw [← hsw] at y0
        have HQR := hidep (And.intro hq (And.intro hr hsw))
        clear hq hr hsw hqi hri
        have hdz : ¬ ((4 : Int) = 0) := by decide
        have f6 := box_frozen hq6 i
        have y6 : ∃ x, wr.cell? ⟨B6, i, none⟩ = some x := ⟨.int .u8 ((halfB S2 i).getD i 0), by
          have e := byC_get (halfB S2 i) i (by simp [halfB]; omega)
          simp only [World.cell?, hq6]
          simpa using e⟩
        obtain ⟨x6, y6⟩ := y6
        have hov : outB S2 i = wz sw / 2 ^ (24 - 8 * r) % 256 := by
          rw [w_shrm, HQR.out.2.2, HQR.out.1, HQR.out.2.1]
          rfl
        have hq6n := byArr_set hq6 i (outB S2 i)
        rw [halfB_set S2 hi32, hov] at hq6n
        have HN := hidep (And.intro hq6n (And.intro ((Below.heap_setCell wr ⟨B6, i, none⟩ (.int .u8 (wz sw / 2 ^ (24 - 8 * r) % 256)) B1 HB6.out.2.1).trans hq1) (And.intro ((Below.heap_setCell wr ⟨B6, i, none⟩ (.int .u8 (wz sw / 2 ^ (24 - 8 * r) % 256)) B2 HB6.out.1).trans hq2) (below_set hbw ⟨B6, i, none⟩ (.int .u8 (wz sw / 2 ^ (24 - 8 * r) % 256)) HB6.out.2.2))))
        clear hq6n hov hq6 hq1 hq2 hbw
        go_wp2
        refine ⟨LoopI.mk rfl ⟨rfl, rfl, rfl, rfl, i + 1, by omega, by show Value.int _ _ = _; go_num, HN.out.1, HN.out.2.1, HN.out.2.2.1, HN.out.2.2.2⟩, ?_⟩
        show 32 - _ < 32 - _
        simp [natI]; omega
      · have hii : ¬ (i : Int) < 32 := by omega
        have hi3 : i = 32 := by omega
        have e32 : halfB S2 i = sha56 l := by
          rw [hi3, HS2.out]
          exact half_sum l
        rw [e32] at hq6
        obtain ⟨o, ho⟩ : ∃ o, o = sha56 l := ⟨_, rfl⟩
        have hol : o.length = 32 := by rw [ho]; simp [sha56]
        rw [← ho] at hq6
        have HOO := hidep ho
        obtain ⟨W2, hW2⟩ : ∃ W2, W2 = wr.setCells B2 0 (byC o) := ⟨_, rfl⟩
        have hbo : (byC o).length = 32 := by simp [byC, hol]
        have HLO := hidep (show wr.rangeAt B6 0 (byC o) from range_of_arr hq6)
        have HTH := hidep (show wr.there B2 0 (byC o).toArray.size from there_of_arr hq2 (by simp [byC, hol]))
        have HI8 := hidep (show (Tryz.prog.info? 125).map (·.size) = some (byC o).toArray.size ∧ (Tryz.prog.info? 125).map (·.size) = some (byC o).length from ⟨by rw [List.size_toArray, hbo]; exact row_u8x32.2, by rw [hbo]; exact row_u8x32.2⟩)
        have HONE8 := hidep (all_oneCell_toArray (byC_one o))
        have HEND := hidep (show W2.rangeAt B2 0 (byC o) ∧ Below w.heap.size w W2 from by
          rw [hW2]
          refine ⟨World.rangeAt_setCells_same _ _ _ _ ?_, below_setCells B2 HBB.out.2.1 _ _ _ hbw⟩
          have := HTH.out
          rwa [List.size_toArray] at this)
        have HW2 := hidep hW2
        clear hq2 hq6 hq1 hbw hW2 e32 hol hbo ho
        go_upto_region 17 with (fail)
        refine wp_region_lit ?_
        refine wpList_load_mid (op := ⟨some 57, _, _, _, _, _⟩) rfl 125 _ rfl B6 0 rfl _ _ HLO.out row_u8x32.1.choose_spec.1 row_u8x32.1.choose_spec.2 HI8.out.2 ?_
        refine wpList_store_to (op := ⟨none, _, _, _, _, _⟩) rfl 125 _ _ rfl B2 0 (byC o).toArray rfl rfl HTH.out HI8.out.1 HONE8.out W2 HW2.out.symm ?_
        go_wp2
        refine bodyPost_ret (results_cell1 rfl _ _ _ rfl (run_loadVar_mid (P := Tryz.prog) W2 B2 0 125 (byC o) _ HEND.out.1 row_u8x32.1.choose_spec.1 row_u8x32.1.choose_spec.2 HI8.out.2)) rfl ?_
        exact ⟨by rw [HOO.out], HEND.out.2⟩
end Go.Proofs.YtipbkdlekanlmaaGreatDoor
/- Journal: the code's hash.Sum of 56 bytes. -/
namespace Go.Proofs.YtipbkdlekanlmaaGreatDoor
open Go.RowKit Go.Lab Go.Disk
attribute [local go_sem] Oper.semAt_some
set_option maxRecDepth 100000
def SumS (w : World) (B2 : Nat) (Y : World) : Prop := Below w.heap.size w Y ∧ ∃ L : List Int, L.length = 32 ∧ Y.heap[B2]? = some (.cells (byC L).toArray 125)
theorem SumS.below {w Y Z : World} {B2 : Nat} (h : SumS w B2 Y) (hb : Below Y.heap.size Y Z) : SumS w B2 Z := by
  obtain ⟨h1, L, h2, h3⟩ := h
  exact ⟨h1.trans (hb.mono h1.size), L, h2, below_push hb h3⟩
theorem sha56_len (l : List Int) : (sha56 l).length = 32 := by simp [sha56]
theorem sum_stored {w Y : World} {B2 : Nat} {L o : List Int} (hb : Below w.heap.size w Y) (hB : w.heap.size ≤ B2) (hL : L.length = 32) (ho : (byC o).length = 32) (hq : Y.heap[B2]? = some (.cells (byC L).toArray 125)) : SumS w B2 (Y.setCells B2 0 (byC o)) ∧ (Y.setCells B2 0 (byC o)).rangeAt B2 0 (byC o) := by
  refine ⟨⟨below_setCells B2 hB _ _ _ hb, o, by rw [byC_length] at ho; exact ho, ?_⟩, World.rangeAt_setCells_same _ _ _ _ ?_⟩
  · rw [heap_setCells (byC o) 0 Y _ hq (by rw [ho, byC_length, hL]; omega)]
    rw [List.take_zero, List.nil_append, List.drop_eq_nil_of_le (by rw [ho, byC_length, hL]; omega), List.append_nil]
  · have := there_of_arr hq (n := 32) (by rw [List.size_toArray, byC_length, hL]; omega)
    rwa [ho]
set_option maxHeartbeats 20000000 in
theorem sumC_any (v : Value) (l : List Int) (w0 : World) (hl : BytR w0 v l) (h56 : l.length = 56) (hk : w0.rangeAt 2 0 (u32C ks0)) :
    Calls Tryz.prog 75 #[v] w0 fun e w' => e = .returned (.agg (byC (sha56 l)).toArray) ∧ Below w0.heap.size w0 w' := by
  obtain ⟨T, hT⟩ : ∃ T, T = strOfNums l := ⟨_, rfl⟩
  have hTs : T.size = 56 := by rw [hT, strOfNums_size, h56]
  have hTn : nums T = l := by rw [hT]; exact nums_str' hl.2
  have hadd := add_first l h56 56
  have HR := hidep (show ∀ W, Below w0.heap.size w0 W → (convert 81 9 v).run Tryz.prog W = .ok (.string T) W ∧ W.rangeAt 2 0 (u32C ks0) from fun W hW => ⟨by rw [hT]; exact bytR_str (hl.below hW) (by omega), fun j u hu => by
    have hlt : (2 : Nat) < w0.heap.size := World.block_lt_of_cell? w0 ⟨2, 0 + j, none⟩ (hk j u hu)
    exact (hW.cell (p := ⟨2, 0 + j, none⟩) hlt).trans (hk j u hu)⟩)
  have HAD := hidep (show ∀ W, Below w0.heap.size w0 W → Calls Tryz.prog 93 #[.agg (strC iv0 (List.replicate 64 0) 0).toArray, .string T] W fun e w' => e = .returned (.agg (strC iv0 (l ++ List.replicate 8 0) (56 : Nat)).toArray) ∧ Below W.heap.size W w' from fun W hW => by
    have h := add_any iv0 (List.replicate 64 0) 0 T 57 W (by omega) (by simp) (by intro x hx; rw [(List.mem_replicate.1 hx).2]; decide) (by omega) (HR.out W hW).2
    rw [hTn, hadd] at h
    exact h)
  have HSU := hidep (show ∀ W, Below w0.heap.size w0 W → Calls Tryz.prog 94 #[.agg (strC iv0 (l ++ List.replicate 8 0) (56 : Nat)).toArray] W fun e w' => e = .returned (.agg (byC (sha56 l)).toArray) ∧ Below W.heap.size W w' from fun W hW => sumS_any l W h56 hl.2 (HR.out W hW).2)
  obtain ⟨o, ho⟩ : ∃ o, o = sha56 l := ⟨_, rfl⟩
  rw [← ho] at HSU
  rw [← ho]
  have hbo : (byC o).length = 32 := by rw [ho, byC_length, sha56_len]
  have hI8 := hidep (show (Tryz.prog.info? 125).map (·.size) = some (byC o).toArray.size ∧ (Tryz.prog.info? 125).map (·.size) = some (byC o).length from ⟨by rw [List.size_toArray, hbo]; exact row_u8x32.2, by rw [hbo]; exact row_u8x32.2⟩)
  have hO8 := hidep (all_oneCell_toArray (byC_one o))
  have HBO := hidep hbo
  clear hT hTs hTn hadd hl h56 hk ho hbo
  go_enter Tryz.func75, Tryz.ntmps75
  go_upto_region 1 with (first
    | (refine wpList_alloc_row (o := ⟨some 2, _, _, _, _, _⟩) zero_u8x32 _ rfl rfl ?_)
    | fail)
  refine wp_abs (fun X => SumS w0 w0.heap.size X)
    ⟨(Below.refl _ _).alloc (Nat.le_refl _) _, List.replicate 32 0, by simp, heap_alloc_new _ _⟩ ?_
  rintro X hX
  obtain ⟨B2, hB2⟩ : ∃ B2, B2 = w0.heap.size := ⟨_, rfl⟩
  rw [← hB2]
  rw [← hB2] at hX
  have HBB := hidep (show w0.heap.size ≤ B2 from by omega)
  clear hB2
  refine wp_region_noPanic (wp_region_held_drew (S := (fun Y => SumS w0 B2 Y)) (by kernel_rfl) ?hS75r1n0 (fun hHeld => ?hR75r1n0))
  case hS75r1n0 => ((try dsimp only); (exact hX.below ((Below.refl _ _).drew)))
  refine wpAnyH_take (i := 1) (v := ?v75r1n0q1) rfl (by kernel_rfl) (by kernel_rfl) (by kernel_rfl) (fun _ _ _ h => h) (Or.inl ⟨by kernel_rfl, ?hy75r1n0q1⟩) (by assumption) ?hr75r1n0q1
  case hy75r1n0q1 => (intro w hSw; (try dsimp only at hSw); (have hcv := (HR.out w hSw.1).1); first | (go_simp; done) | (go_simp; with_reducible rfl))
  refine wpAnyH_take (i := 2) (v := ?v75r1n0q2) rfl (by kernel_rfl) (by kernel_rfl) (by kernel_rfl) (fun _ _ _ h => h) (Or.inl ⟨by kernel_rfl, ?hy75r1n0q2⟩) (by assumption) ?hr75r1n0q2
  case hy75r1n0q2 => (intro w hSw; (try dsimp only at hSw); (have hcv := (HR.out w hSw.1).1); first | (go_simp; done) | (go_simp; with_reducible rfl))
  refine wpAnyH_ready (rs := [0]) (by kernel_rfl) (by simp) (AllReadyH.cons rfl (fun K hK => ?hc75r1n0q3) AllReadyH.nil)
  go_simp
  (go_at_call 92; refine (begin_any _).mono ?_; rintro e w3 ⟨rfl, hb3⟩; have hk := hHeld.below hb3; (try dsimp only))
  refine hK.out _ _ ?hs75r1n0q3 (fun hHeld75r1n0q3 => ?ht75r1n0q3)
  case hs75r1n0q3 => ((try dsimp only); (first | exact hk | exact hk.1))
  clear hHeld hK
  have hHeld := hHeld75r1n0q3
  clear hHeld75r1n0q3
  refine wpAnyH_ready (rs := [3]) (by kernel_rfl) (by simp) (AllReadyH.cons rfl (fun K hK => ?hc75r1n0q4) AllReadyH.nil)
  go_simp
  (go_at_call 93; refine (HAD.out _ hHeld.1).mono ?_; rintro e w6 ⟨rfl, hb6⟩; have hk := hHeld.below hb6; (try dsimp only))
  refine hK.out _ _ ?hs75r1n0q4 (fun hHeld75r1n0q4 => ?ht75r1n0q4)
  case hs75r1n0q4 => ((try dsimp only); (first | exact hk | exact hk.1))
  clear hHeld hK
  have hHeld := hHeld75r1n0q4
  clear hHeld75r1n0q4
  refine wpAnyH_ready (rs := [4]) (by kernel_rfl) (by simp) (AllReadyH.cons rfl (fun K hK => ?hc75r1n0q5) AllReadyH.nil)
  go_simp
  (go_at_call 94; refine (HSU.out _ hHeld.1).mono ?_; rintro e w7 ⟨rfl, hb7⟩; have hk := hHeld.below hb7; (try dsimp only))
  refine hK.out _ _ ?hs75r1n0q5 (fun hHeld75r1n0q5 => ?ht75r1n0q5)
  case hs75r1n0q5 => ((try dsimp only); (first | exact hk | exact hk.1))
  clear hHeld hK
  have hHeld := hHeld75r1n0q5
  clear hHeld75r1n0q5
  refine wpAnyH_ready (rs := [5]) (by kernel_rfl) (by simp) (AllReadyH.cons rfl (fun K hK => ?hc75r1n0q6) AllReadyH.nil)
  (have hH := hHeld; obtain ⟨hb, L, hL, hq⟩ := hH; refine step_store_mid rfl 125 _ _ rfl B2 0 (byC o).toArray rfl rfl (there_of_arr hq (by rw [List.size_toArray, List.size_toArray, HBO.out, byC_length, hL]; decide)) hI8.out.1 hO8.out _ rfl ?_; have hk := sum_stored hb HBB.out hL HBO.out hq)
  refine hK.out _ _ ?hs75r1n0q6 (fun hHeld75r1n0q6 => ?ht75r1n0q6)
  case hs75r1n0q6 => ((try dsimp only); (first | exact hk | exact hk.1))
  clear hHeld hK
  have hHeld := hHeld75r1n0q6
  clear hHeld75r1n0q6
  refine wpAnyH_done (by kernel_rfl) ?_ _
  clear hHeld
  refine NoPanic.normal ?_
  apply_assumption
  go_wp2
  refine bodyPost_ret (results_cell1 rfl _ _ _ (by kernel_rfl) (run_loadVar_mid (P := Tryz.prog) (w7.setCells B2 0 (byC o)) B2 0 125 (byC o) _ hk.2 row_u8x32.1.choose_spec.1 row_u8x32.1.choose_spec.2 hI8.out.2)) (by kernel_rfl) ?_
  exact ⟨rfl, hk.1.1⟩
end Go.Proofs.YtipbkdlekanlmaaGreatDoor
