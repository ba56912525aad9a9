/- Journal: the code's unpack. -/
import Derived.Test.YtipbkdlekanlmaaGreatDoorZr15
import Derived.Laws.IdiomStrings
import Derived.Deep.OwnRows
namespace Go.Proofs.YtipbkdlekanlmaaGreatDoor
open Go.RowKit Go.Lab Go.Jn Go.Disk
attribute [local go_sem] Oper.semAt_some
set_option maxRecDepth 100000
theorem row_part : (∃ d, Tryz.prog.underlying 94 = some d ∧ d.isRow = true) ∧ (Tryz.prog.info? 94).map (·.size) = some 5 := ⟨under_row (by kernel_rfl), by kernel_rfl⟩
theorem part_load (W : World) (B : Nat) (p : PartZ) (fz : Nat × Nat) (h : W.heap[B]? = some (.cells (partC p) 94 fz)) : (loadVar 94 ⟨B, 0, none⟩).run Tryz.prog W = .ok (.agg (partC p)) W :=
  run_loadVar_mid (P := Tryz.prog) W B 0 94 (partC p).toList _ (range_of_arr (by simpa using h)) row_part.1.choose_spec.1 row_part.1.choose_spec.2 row_part.2
theorem part_set {W : World} {g : Nat} {C : Array Value} (h : W.heap[g]? = some (.cells C 94)) (hC : C.size = 5) (p : PartZ) : (W.setCells g 0 (partC p).toList).heap[g]? = some (.cells (partC p) 94) := by
  have h' : W.heap[g]? = some (.cells C.toList.toArray 94) := by simpa using h
  rw [heap_setCells (partC p).toList 0 W C.toList h' (by rw [Array.length_toList, Array.length_toList, hC]; exact Nat.le_refl 5)]
  rw [List.take_zero, List.nil_append, List.drop_eq_nil_of_le (by rw [Array.length_toList, Array.length_toList, hC]; exact Nat.le_refl 5), List.append_nil]
/-- What holds behind the checks. -/
def UnpM (V : World) (s : ByteArray) (B2 B5 n : Nat) (bd : Bool) (a : Act) (W : World) : Prop :=
  a.tmps.size = 79 ∧ a.defers = [] ∧ slot a.tmps 0 = .string s ∧ slot a.tmps 2 = .pointer (some ⟨B2, 0, none⟩) ∧ slot a.tmps 5 = .pointer (some ⟨B5, 0, none⟩) ∧ slot a.tmps 6 = .int .i64 (n : Int) ∧ slot a.tmps 71 = .bool bd ∧ Below V.heap.size V W
/-- What holds behind the making of the part. -/
def PartM (Z : World) (s : ByteArray) (B2 A E : Nat) (p : PartZ) (a : Act) (W : World) : Prop :=
  a.tmps.size = 79 ∧ a.defers = [] ∧ slot a.tmps 0 = .string s ∧ slot a.tmps 2 = .pointer (some ⟨B2, 0, none⟩) ∧ slot a.tmps 3 = .pointer (some ⟨A, 0, none⟩) ∧ slot a.tmps 4 = .pointer (some ⟨E, 0, none⟩) ∧ Below Z.heap.size Z W ∧
    ∃ B5, slot a.tmps 5 = .pointer (some ⟨B5, 0, none⟩) ∧ Z.heap.size ≤ B5 ∧ W.heap[B5]? = some (.cells (partC p) 94)
set_option maxHeartbeats 8000000 in
theorem unpack_any (s : ByteArray) (w : World) (hk : w.rangeAt 2 0 (u32C ks0)) : Calls Tryz.prog 49 #[.string s] w fun e w' => e = .returned (.agg (partC (unpZ s))) ∧ Below w.heap.size w w' := by
  by_cases hs : s.size = 64
  · have hsi : ¬ ¬ (s.size : Int) = 64 := by omega
    go_enter Tryz.func49, Tryz.ntmps49
    go_upto_region 3 with (fail)
    refine wp_abs (fun X => X.heap[w.heap.size]? = some (.cells (partC part0) 94) ∧ Below w.heap.size w X) ⟨heap_alloc_new _ _, (Below.refl _ _).alloc (Nat.le_refl _) _⟩ ?_
    rintro X ⟨hq2, hbX⟩
    obtain ⟨B2, hB2⟩ : ∃ B, B = w.heap.size := ⟨_, rfl⟩
    rw [← hB2] at hq2
    rw [← hB2]
    have HB2 := hidep hB2
    clear hB2
    obtain ⟨c, X2, hcv, hcc, hb2, hrg, hs2⟩ := bytes_new X s
    rw [hs] at hcv hcc
    have hu61 : Tryz.prog.underlying 96 = some (.array 64 5) := by kernel_rfl
    have hap := fun W => run_arrayAt (P := Tryz.prog) (w := W) 96 5 64 (some ⟨X.heap.size, 0, none⟩) 64 c hu61 (by decide)
    obtain ⟨SL, hSL⟩ : ∃ SL, SL = byC (nums s) := ⟨_, rfl⟩
    have hSLl : SL.length = 64 := by rw [hSL, byC_length, nums_len, hs]
    rw [← hSL] at hrg
    have HRG := hidep (And.intro hrg hSLl)
    have hI := hidep (show (Tryz.prog.info? 96).map (·.size) = some SL.toArray.size from by rw [List.size_toArray, hSLl]; exact row_sect.2)
    obtain ⟨Z0, hZ0⟩ : ∃ Z0, Z0 = (byC (List.replicate 64 0)).toArray := ⟨_, rfl⟩
    have hzs : ∀ w, (zeroValue 96).run Tryz.prog w = .ok (.agg Z0) w := by rw [hZ0]; exact zero_sect
    have hSZ := hidep (show Z0.size = SL.toArray.size from by rw [hZ0, List.size_toArray, List.size_toArray, byC_length, hSLl]; simp)
    have hONE := hidep (all_oneCell_toArray (show ∀ u ∈ SL, u.oneCell' = true from by rw [hSL]; exact byC_one (nums s)))
    have HSL := hidep hSL
    clear hrg hZ0 hSL hSLl
    refine wp_cutA 79 (fun tm ds => ds = [] ∧ slot tm 0 = .string s ∧ slot tm 2 = .pointer (some ⟨B2, 0, none⟩)) (by kernel_rfl) (by exact ⟨by kernel_rfl, by kernel_rfl, by kernel_rfl⟩) ?_
    rintro tA dA h79 ⟨rfl, e0, e2⟩
    rw [frame79 tA [] h79, e0, e2]
    clear h79 e0 e2
    refine wp_region_lit ?_
    refine wpList_value rfl (v := .string s) (w' := X) (by simp [execOp, Act.eval]) ?_
    refine wpList_value rfl (v := .slice (some ⟨X.heap.size, 0, none⟩) 64 c) (w' := X2) (by
      have e : ∀ a : Act, a.eval (.tmp 12) = .string s → (execOp a.eval ⟨some 13, .convert 9 81 (.tmp 12), 81, "", #[], none⟩).run Tryz.prog X = .ok (.value (.slice (some ⟨X.heap.size, 0, none⟩) 64 c)) X2 := fun a ha => by
        simp [execOp, ha, hcv, Result.andThen]
      exact e _ (by kernel_rfl)) ?_
    refine wpList_value rfl (v := .pointer (some ⟨X.heap.size, 0, none⟩)) (w' := X2) (by
      have e : ∀ a : Act, a.eval (.tmp 13) = .slice (some ⟨X.heap.size, 0, none⟩) 64 c → (execOp a.eval ⟨some 14, .sliceToArrayPointer 96 (.tmp 13), 0, "", #[], none⟩).run Tryz.prog X2 = .ok (.value (.pointer (some ⟨X.heap.size, 0, none⟩))) X2 := fun a ha => by
        simp [execOp, ha, hap, Result.andThen]
      exact e _ (by kernel_rfl)) ?_
    refine wpList_load_mid rfl 96 _ rfl X.heap.size 0 (by kernel_rfl) SL _ HRG.out.1 row_sect.1.choose_spec.1 row_sect.1.choose_spec.2 (by rw [HRG.out.2]; exact row_sect.2) ?_
    refine wpList_alloc_row hzs _ rfl rfl ?_
    refine wpList_store_last X2 hI.out hSZ.out hONE.out rfl _ _ rfl (by kernel_rfl) (by kernel_rfl) ?_
    refine wpList_nil ?_
    apply_assumption
    refine wp_abs (fun Y => Y.heap[X2.heap.size]? = some (.cells SL.toArray 96) ∧ Y.heap[B2]? = some (.cells (partC part0) 94) ∧ Below w.heap.size w Y) ⟨heap_alloc_new _ _, below_push ((Below.refl _ _).alloc (Nat.le_refl _) _) (below_push hb2 hq2), (hbX.trans (hb2.mono hbX.size)).alloc (Nat.le_trans hbX.size hb2.size) _⟩ ?_
    rintro Y ⟨hqA, hqB, hbY⟩
    have hBA : B2 < X2.heap.size := by have := lt_of_block hq2; have := hb2.size; omega
    obtain ⟨A, hA⟩ : ∃ A, A = X2.heap.size := ⟨_, rfl⟩
    refine wp_cutA 79 (fun tm ds => ds = [] ∧ slot tm 0 = .string s ∧ slot tm 2 = .pointer (some ⟨B2, 0, none⟩) ∧ slot tm 3 = .pointer (some ⟨A, 0, none⟩)) (by kernel_rfl) (by exact ⟨by kernel_rfl, by kernel_rfl, by kernel_rfl, by rw [hA]; kernel_rfl⟩) ?_
    rintro tB dB h79 ⟨rfl, e0, e2, e3⟩
    rw [frame79 tB [] h79, e0, e2, e3]
    rw [← hA] at hBA hqA
    clear h79 e0 e2 e3 hA hq2 hbX hb2 hs2 hcv hap hI hSZ hONE hzs HRG hcc
    have hq2 := hqB
    clear hqB
    obtain ⟨H, hH⟩ : ∃ H, H = (nums s).take 56 := ⟨_, rfl⟩
    have hH56 : H.length = 56 := by rw [hH, List.length_take, nums_len, hs]; rfl
    have hbt := bytR_of_block (o := 0) (m := 56) (c := 64) (L := nums s) (by rw [← HSL.out]; exact hqA) (by rw [nums_len, hs]; omega) (by omega) (by omega) (nums_rng s)
    rw [List.drop_zero, ← hH] at hbt
    have HSM := hidep (sumC_any _ H Y hbt hH56 (hk.below hbY))
    obtain ⟨O, hO⟩ : ∃ O, O = sha56 H := ⟨_, rfl⟩
    have hO32 : (byC O).length = 32 := by rw [hO, byC_length, sha56_len]
    rw [← hO] at HSM
    have hI := hidep (show (Tryz.prog.info? 125).map (·.size) = some (byC O).toArray.size from by rw [List.size_toArray, hO32]; exact row_u8x32.2)
    have hSZ := hidep (show (byC (List.replicate 32 0)).toArray.size = (byC O).toArray.size from by rw [List.size_toArray, List.size_toArray, hO32, byC_length]; simp)
    have hONE := hidep (all_oneCell_toArray (byC_one O))
    have HO := hidep (And.intro hO (And.intro hO32 hH))
    clear hO hO32 hbt hH
    refine wp_seq ?_
    refine wp_region_lit ?_
    refine wpList_value rfl (v := .slice (some ⟨A, 0, none⟩) 56 64) (w' := Y) (by
      have e : ∀ ev : Operand → Value, ev (.tmp 3) = .pointer (some ⟨A, 0, none⟩) → ev (.const (.int .i64 56)) = .int .i64 56 → (execOp ev ⟨some 16, .slice 96 (.tmp 3) none (some (.const (.int .i64 56))) none, 0, "", #[], none⟩).run Tryz.prog Y = .ok (.value (.slice (some ⟨A, 0, none⟩) 56 64)) Y := fun ev ha hc => by
        go_simp
      exact e _ (by kernel_rfl) rfl) ?_
    refine wpList_enter rfl 75 #[.slice (some ⟨A, 0, none⟩) 56 64] (by kernel_rfl) HSM.out ?_
    intro w9 hb9
    refine wpList_alloc_row zero_u8x32 _ rfl rfl ?_
    refine wpList_store_last w9 hI.out hSZ.out hONE.out rfl _ _ rfl (by kernel_rfl) (by kernel_rfl) ?_
    refine wpList_nil ?_
    dsimp only [Exit.then]
    refine wp_abs (fun Z => Z.heap[w9.heap.size]? = some (.cells (byC O).toArray 125) ∧ Z.heap[A]? = some (.cells SL.toArray 96) ∧ Z.heap[B2]? = some (.cells (partC part0) 94) ∧ Below w.heap.size w Z) ⟨heap_alloc_new _ _, below_push ((Below.refl _ _).alloc (Nat.le_refl _) _) (below_push hb9 hqA), below_push ((Below.refl _ _).alloc (Nat.le_refl _) _) (below_push hb9 hq2), (hbY.trans (hb9.mono hbY.size)).alloc (Nat.le_trans hbY.size hb9.size) _⟩ ?_
    rintro Z ⟨hqE, hqA', hqB', hbZ⟩
    have hAE : A < w9.heap.size := lt_of_block (below_push hb9 hqA)
    obtain ⟨E, hE⟩ : ∃ E, E = w9.heap.size := ⟨_, rfl⟩
    refine wp_cutA 79 (fun tm ds => ds = [] ∧ slot tm 0 = .string s ∧ slot tm 2 = .pointer (some ⟨B2, 0, none⟩) ∧ slot tm 3 = .pointer (some ⟨A, 0, none⟩) ∧ slot tm 4 = .pointer (some ⟨E, 0, none⟩)) (by kernel_rfl) (by exact ⟨by kernel_rfl, by kernel_rfl, by kernel_rfl, by kernel_rfl, by rw [hE]; kernel_rfl⟩) ?_
    rintro tC dC h79 ⟨rfl, e0, e2, e3, e4⟩
    rw [frame79 tC [] h79, e0, e2, e3, e4]
    rw [← hE] at hAE hqE
    have hqA := hqA'
    have hq2 := hqB'
    clear h79 e0 e2 e3 e4 hE hqA' hqB' hb9 hbY HSM hI hSZ hONE
    have HQ := hidep (And.intro hqE (And.intro hqA (And.intro hq2 hbZ)))
    have HAE := hidep (And.intro hBA hAE)
    have hG := hidep (show ∀ (o m c : Nat) W, o + m ≤ 64 → m ≤ 4 → Below Z.heap.size Z W → Calls Tryz.prog 76 #[.slice (some ⟨A, o, none⟩) m c] W fun e w' => e = .returned (.int .i64 (getN (((nums s).drop o).take m))) ∧ Below W.heap.size W w' from fun o m c W h1 h2 hW => get_any A o m c (nums s) 96 W (by rw [← HSL.out]; exact below_push hW HQ.out.2.1) (by rw [nums_len, hs]; exact h1) h2 (nums_rng s))
    clear hqE hqA hq2 hbZ hBA hAE
    have hk0 := Below.refl Z.heap.size Z
    obtain ⟨zn, hzn⟩ : ∃ x, x = numZ (nums s) := ⟨_, rfl⟩
    obtain ⟨zp, hzp⟩ : ∃ x, x = partNo (nums s) := ⟨_, rfl⟩
    obtain ⟨zl, hzl⟩ : ∃ x, x = leftZ (nums s) := ⟨_, rfl⟩
    have hG19 := fun W => hG.out 0 4 64 W (by omega) (by omega)
    have hG21 := fun W => hG.out 4 2 60 W (by omega) (by omega)
    have hG23 := fun W => hG.out 6 2 58 W (by omega) (by omega)
    rw [List.drop_zero, show getN ((nums s).take 4) = zn from hzn.symm] at hG19
    rw [show getN (((nums s).drop 4).take 2) = zp from hzp.symm] at hG21
    rw [show getN (((nums s).drop 6).take 2) = zl from hzl.symm] at hG23
    have HG19 := hidep hG19
    have HG21 := hidep hG21
    have HG23 := hidep hG23
    have HZ := hidep (And.intro hzn (And.intro hzp hzl))
    clear hG hG19 hG21 hG23 hzn hzp hzl
    refine wp_seq ?_
    refine wp_join (PartM Z s B2 A E ⟨zn, zp, zl, ByteArray.empty, true⟩) ?parts ?_
    case parts =>
      intro K' hMK
      refine wp_region_noPanic (wp_region_held_drew (S := (fun Y => Below Z.heap.size Z Y)) (by kernel_rfl) ?hS49r5n0 (fun hHeld => ?hR49r5n0))
      case hS49r5n0 => ((try dsimp only); (exact hk0.drew))
      refine wpAnyH_take (i := 0) (v := ?v49r5n0q1) rfl (by kernel_rfl) (by kernel_rfl) (by kernel_rfl) (fun _ _ _ h => h) (Or.inl ⟨by kernel_rfl, ?hy49r5n0q1⟩) (by assumption) ?hr49r5n0q1
      case hy49r5n0q1 => (intro w hSw; (try dsimp only at hSw); skip; first | (go_simp; done) | (go_simp; with_reducible rfl))
      refine wpAnyH_take (i := 2) (v := ?v49r5n0q2) rfl (by kernel_rfl) (by kernel_rfl) (by kernel_rfl) (fun _ _ _ h => h) (Or.inl ⟨by kernel_rfl, ?hy49r5n0q2⟩) (by assumption) ?hr49r5n0q2
      case hy49r5n0q2 => (intro w hSw; (try dsimp only at hSw); skip; first | (go_simp; done) | (go_simp; with_reducible rfl))
      refine wpAnyH_take (i := 4) (v := ?v49r5n0q3) rfl (by kernel_rfl) (by kernel_rfl) (by kernel_rfl) (fun _ _ _ h => h) (Or.inl ⟨by kernel_rfl, ?hy49r5n0q3⟩) (by assumption) ?hr49r5n0q3
      case hy49r5n0q3 => (intro w hSw; (try dsimp only at hSw); skip; first | (go_simp; done) | (go_simp; with_reducible rfl))
      refine wpAnyH_ready (rs := [1, 7]) (by kernel_rfl) (by simp) (AllReadyH.cons rfl (fun K hK => ?hc49r5n0q4) (AllReadyH.cons rfl (fun K hK => ?hc49r5n0q5) AllReadyH.nil))
      case' hc49r5n0q4 =>
        go_simp
        (go_at_call 76; refine (HG19.out _ hHeld).mono ?_; rintro e w19 ⟨rfl, hb19⟩; have hk := hHeld.trans (hb19.mono hHeld.size); (first | (have hL5 := below_push hb19 hL5) | skip); (try dsimp only))
        refine hK.out _ _ ?hs49r5n0q4 (fun hHeld49r5n0q4 => ?ht49r5n0q4)
        case hs49r5n0q4 => ((try dsimp only); (first | (with_reducible exact hHeld) | exact hk | exact hk.drew))
        clear hHeld hK
        have hHeld := hHeld49r5n0q4
        clear hHeld49r5n0q4
        refine wpAnyH_ready (rs := [3, 7]) (by kernel_rfl) (by simp) (AllReadyH.cons rfl (fun K hK => ?hc49r5n0q6) (AllReadyH.cons rfl (fun K hK => ?hc49r5n0q7) AllReadyH.nil))
        case' hc49r5n0q6 =>
          go_simp
          (go_at_call 76; refine (HG21.out _ hHeld).mono ?_; rintro e w21 ⟨rfl, hb21⟩; have hk := hHeld.trans (hb21.mono hHeld.size); (first | (have hL5 := below_push hb21 hL5) | skip); (try dsimp only))
          refine hK.out _ _ ?hs49r5n0q6 (fun hHeld49r5n0q6 => ?ht49r5n0q6)
          case hs49r5n0q6 => ((try dsimp only); (first | (with_reducible exact hHeld) | exact hk | exact hk.drew))
          clear hHeld hK
          have hHeld := hHeld49r5n0q6
          clear hHeld49r5n0q6
          refine wpAnyH_ready (rs := [5, 7]) (by kernel_rfl) (by simp) (AllReadyH.cons rfl (fun K hK => ?hc49r5n0q8) (AllReadyH.cons rfl (fun K hK => ?hc49r5n0q9) AllReadyH.nil))
          case' hc49r5n0q8 =>
            go_simp
            (go_at_call 76; refine (HG23.out _ hHeld).mono ?_; rintro e w23 ⟨rfl, hb23⟩; have hk := hHeld.trans (hb23.mono hHeld.size); (first | (have hL5 := below_push hb23 hL5) | skip); (try dsimp only))
            refine hK.out _ _ ?hs49r5n0q8 (fun hHeld49r5n0q8 => ?ht49r5n0q8)
            case hs49r5n0q8 => ((try dsimp only); (first | (with_reducible exact hHeld) | exact hk | exact hk.drew))
            clear hHeld hK
            have hHeld := hHeld49r5n0q8
            clear hHeld49r5n0q8
            refine wpAnyH_take (i := 6) (v := ?v49r5n0q10) rfl (by kernel_rfl) (by kernel_rfl) (by kernel_rfl) (fun _ _ _ h => h) (Or.inl ⟨by kernel_rfl, ?hy49r5n0q10⟩) (by assumption) ?hr49r5n0q10
            case hy49r5n0q10 => (intro w hSw; (try dsimp only at hSw); skip; first | (go_simp; done) | (go_simp; with_reducible rfl))
            refine wpAnyH_ready (rs := [7]) (by kernel_rfl) (by simp) (AllReadyH.cons rfl (fun K hK => ?hc49r5n0q11) AllReadyH.nil)
            go_simp
            ((first | refine intro_alloc (fun X5 hBX hL5 => ?_) | refine intro_alloc_drew (fun X5 hBX hL5 => ?_)); have hg5 := hHeld.size; have hk := below_step (by first | exact hHeld | exact lower_drew hHeld) hBX; (try dsimp only))
            refine hK.out _ _ ?hs49r5n0q11 (fun hHeld49r5n0q11 => ?ht49r5n0q11)
            case hs49r5n0q11 => ((try dsimp only); (first | (with_reducible exact hHeld) | exact hk | exact hk.drew))
            clear hHeld hK
            have hHeld := hHeld49r5n0q11
            clear hHeld49r5n0q11
            refine wpAnyH_ready (rs := [8]) (by kernel_rfl) (by simp) (AllReadyH.cons rfl (fun K hK => ?hc49r5n0q12) AllReadyH.nil)
            (refine step_store_mid rfl 94 _ _ rfl _ 0 (partC ⟨zn, zp, zl, ByteArray.empty, true⟩) rfl rfl (there_of_arr hL5 (Nat.le_refl 5)) row_part.2 (part_one _) _ rfl ?_; have hk := below_setCells _ hg5 (partC ⟨zn, zp, zl, ByteArray.empty, true⟩).toList 0 _ hk)
            refine hK.out _ _ ?hs49r5n0q12 (fun hHeld49r5n0q12 => ?ht49r5n0q12)
            case hs49r5n0q12 => ((try dsimp only); (first | (with_reducible exact hHeld) | exact hk | exact hk.drew))
            clear hHeld hK
            have hHeld := hHeld49r5n0q12
            clear hHeld49r5n0q12
            refine wpAnyH_done (by kernel_rfl) ?_ _
            clear hHeld
            refine NoPanic.normal ?_
          case' hc49r5n0q9 =>
            go_simp
            ((first | refine intro_alloc (fun X5 hBX hL5 => ?_) | refine intro_alloc_drew (fun X5 hBX hL5 => ?_)); have hg5 := hHeld.size; have hk := below_step (by first | exact hHeld | exact lower_drew hHeld) hBX; (try dsimp only))
            refine hK.out _ _ ?hs49r5n0q9 (fun hHeld49r5n0q9 => ?ht49r5n0q9)
            case hs49r5n0q9 => ((try dsimp only); (first | (with_reducible exact hHeld) | exact hk | exact hk.drew))
            clear hHeld hK
            have hHeld := hHeld49r5n0q9
            clear hHeld49r5n0q9
            refine wpAnyH_ready (rs := [5]) (by kernel_rfl) (by simp) (AllReadyH.cons rfl (fun K hK => ?hc49r5n0q13) AllReadyH.nil)
            go_simp
            (go_at_call 76; refine (HG23.out _ hHeld).mono ?_; rintro e w23 ⟨rfl, hb23⟩; have hk := hHeld.trans (hb23.mono hHeld.size); (first | (have hL5 := below_push hb23 hL5) | skip); (try dsimp only))
            refine hK.out _ _ ?hs49r5n0q13 (fun hHeld49r5n0q13 => ?ht49r5n0q13)
            case hs49r5n0q13 => ((try dsimp only); (first | (with_reducible exact hHeld) | exact hk | exact hk.drew))
            clear hHeld hK
            have hHeld := hHeld49r5n0q13
            clear hHeld49r5n0q13
            refine wpAnyH_take (i := 6) (v := ?v49r5n0q14) rfl (by kernel_rfl) (by kernel_rfl) (by kernel_rfl) (fun _ _ _ h => h) (Or.inl ⟨by kernel_rfl, ?hy49r5n0q14⟩) (by assumption) ?hr49r5n0q14
            case hy49r5n0q14 => (intro w hSw; (try dsimp only at hSw); skip; first | (go_simp; done) | (go_simp; with_reducible rfl))
            refine wpAnyH_ready (rs := [8]) (by kernel_rfl) (by simp) (AllReadyH.cons rfl (fun K hK => ?hc49r5n0q15) AllReadyH.nil)
            (refine step_store_mid rfl 94 _ _ rfl _ 0 (partC ⟨zn, zp, zl, ByteArray.empty, true⟩) rfl rfl (there_of_arr hL5 (Nat.le_refl 5)) row_part.2 (part_one _) _ rfl ?_; have hk := below_setCells _ hg5 (partC ⟨zn, zp, zl, ByteArray.empty, true⟩).toList 0 _ hk)
            refine hK.out _ _ ?hs49r5n0q15 (fun hHeld49r5n0q15 => ?ht49r5n0q15)
            case hs49r5n0q15 => ((try dsimp only); (first | (with_reducible exact hHeld) | exact hk | exact hk.drew))
            clear hHeld hK
            have hHeld := hHeld49r5n0q15
            clear hHeld49r5n0q15
            refine wpAnyH_done (by kernel_rfl) ?_ _
            clear hHeld
            refine NoPanic.normal ?_
        case' hc49r5n0q7 =>
          go_simp
          ((first | refine intro_alloc (fun X5 hBX hL5 => ?_) | refine intro_alloc_drew (fun X5 hBX hL5 => ?_)); have hg5 := hHeld.size; have hk := below_step (by first | exact hHeld | exact lower_drew hHeld) hBX; (try dsimp only))
          refine hK.out _ _ ?hs49r5n0q7 (fun hHeld49r5n0q7 => ?ht49r5n0q7)
          case hs49r5n0q7 => ((try dsimp only); (first | (with_reducible exact hHeld) | exact hk | exact hk.drew))
          clear hHeld hK
          have hHeld := hHeld49r5n0q7
          clear hHeld49r5n0q7
          refine wpAnyH_ready (rs := [3]) (by kernel_rfl) (by simp) (AllReadyH.cons rfl (fun K hK => ?hc49r5n0q16) AllReadyH.nil)
          go_simp
          (go_at_call 76; refine (HG21.out _ hHeld).mono ?_; rintro e w21 ⟨rfl, hb21⟩; have hk := hHeld.trans (hb21.mono hHeld.size); (first | (have hL5 := below_push hb21 hL5) | skip); (try dsimp only))
          refine hK.out _ _ ?hs49r5n0q16 (fun hHeld49r5n0q16 => ?ht49r5n0q16)
          case hs49r5n0q16 => ((try dsimp only); (first | (with_reducible exact hHeld) | exact hk | exact hk.drew))
          clear hHeld hK
          have hHeld := hHeld49r5n0q16
          clear hHeld49r5n0q16
          refine wpAnyH_ready (rs := [5]) (by kernel_rfl) (by simp) (AllReadyH.cons rfl (fun K hK => ?hc49r5n0q17) AllReadyH.nil)
          go_simp
          (go_at_call 76; refine (HG23.out _ hHeld).mono ?_; rintro e w23 ⟨rfl, hb23⟩; have hk := hHeld.trans (hb23.mono hHeld.size); (first | (have hL5 := below_push hb23 hL5) | skip); (try dsimp only))
          refine hK.out _ _ ?hs49r5n0q17 (fun hHeld49r5n0q17 => ?ht49r5n0q17)
          case hs49r5n0q17 => ((try dsimp only); (first | (with_reducible exact hHeld) | exact hk | exact hk.drew))
          clear hHeld hK
          have hHeld := hHeld49r5n0q17
          clear hHeld49r5n0q17
          refine wpAnyH_take (i := 6) (v := ?v49r5n0q18) rfl (by kernel_rfl) (by kernel_rfl) (by kernel_rfl) (fun _ _ _ h => h) (Or.inl ⟨by kernel_rfl, ?hy49r5n0q18⟩) (by assumption) ?hr49r5n0q18
          case hy49r5n0q18 => (intro w hSw; (try dsimp only at hSw); skip; first | (go_simp; done) | (go_simp; with_reducible rfl))
          refine wpAnyH_ready (rs := [8]) (by kernel_rfl) (by simp) (AllReadyH.cons rfl (fun K hK => ?hc49r5n0q19) AllReadyH.nil)
          (refine step_store_mid rfl 94 _ _ rfl _ 0 (partC ⟨zn, zp, zl, ByteArray.empty, true⟩) rfl rfl (there_of_arr hL5 (Nat.le_refl 5)) row_part.2 (part_one _) _ rfl ?_; have hk := below_setCells _ hg5 (partC ⟨zn, zp, zl, ByteArray.empty, true⟩).toList 0 _ hk)
          refine hK.out _ _ ?hs49r5n0q19 (fun hHeld49r5n0q19 => ?ht49r5n0q19)
          case hs49r5n0q19 => ((try dsimp only); (first | (with_reducible exact hHeld) | exact hk | exact hk.drew))
          clear hHeld hK
          have hHeld := hHeld49r5n0q19
          clear hHeld49r5n0q19
          refine wpAnyH_done (by kernel_rfl) ?_ _
          clear hHeld
          refine NoPanic.normal ?_
      case' hc49r5n0q5 =>
        go_simp
        ((first | refine intro_alloc (fun X5 hBX hL5 => ?_) | refine intro_alloc_drew (fun X5 hBX hL5 => ?_)); have hg5 := hHeld.size; have hk := below_step (by first | exact hHeld | exact lower_drew hHeld) hBX; (try dsimp only))
        refine hK.out _ _ ?hs49r5n0q5 (fun hHeld49r5n0q5 => ?ht49r5n0q5)
        case hs49r5n0q5 => ((try dsimp only); (first | (with_reducible exact hHeld) | exact hk | exact hk.drew))
        clear hHeld hK
        have hHeld := hHeld49r5n0q5
        clear hHeld49r5n0q5
        refine wpAnyH_ready (rs := [1]) (by kernel_rfl) (by simp) (AllReadyH.cons rfl (fun K hK => ?hc49r5n0q20) AllReadyH.nil)
        go_simp
        (go_at_call 76; refine (HG19.out _ hHeld).mono ?_; rintro e w19 ⟨rfl, hb19⟩; have hk := hHeld.trans (hb19.mono hHeld.size); (first | (have hL5 := below_push hb19 hL5) | skip); (try dsimp only))
        refine hK.out _ _ ?hs49r5n0q20 (fun hHeld49r5n0q20 => ?ht49r5n0q20)
        case hs49r5n0q20 => ((try dsimp only); (first | (with_reducible exact hHeld) | exact hk | exact hk.drew))
        clear hHeld hK
        have hHeld := hHeld49r5n0q20
        clear hHeld49r5n0q20
        refine wpAnyH_ready (rs := [3]) (by kernel_rfl) (by simp) (AllReadyH.cons rfl (fun K hK => ?hc49r5n0q21) AllReadyH.nil)
        go_simp
        (go_at_call 76; refine (HG21.out _ hHeld).mono ?_; rintro e w21 ⟨rfl, hb21⟩; have hk := hHeld.trans (hb21.mono hHeld.size); (first | (have hL5 := below_push hb21 hL5) | skip); (try dsimp only))
        refine hK.out _ _ ?hs49r5n0q21 (fun hHeld49r5n0q21 => ?ht49r5n0q21)
        case hs49r5n0q21 => ((try dsimp only); (first | (with_reducible exact hHeld) | exact hk | exact hk.drew))
        clear hHeld hK
        have hHeld := hHeld49r5n0q21
        clear hHeld49r5n0q21
        refine wpAnyH_ready (rs := [5]) (by kernel_rfl) (by simp) (AllReadyH.cons rfl (fun K hK => ?hc49r5n0q22) AllReadyH.nil)
        go_simp
        (go_at_call 76; refine (HG23.out _ hHeld).mono ?_; rintro e w23 ⟨rfl, hb23⟩; have hk := hHeld.trans (hb23.mono hHeld.size); (first | (have hL5 := below_push hb23 hL5) | skip); (try dsimp only))
        refine hK.out _ _ ?hs49r5n0q22 (fun hHeld49r5n0q22 => ?ht49r5n0q22)
        case hs49r5n0q22 => ((try dsimp only); (first | (with_reducible exact hHeld) | exact hk | exact hk.drew))
        clear hHeld hK
        have hHeld := hHeld49r5n0q22
        clear hHeld49r5n0q22
        refine wpAnyH_take (i := 6) (v := ?v49r5n0q23) rfl (by kernel_rfl) (by kernel_rfl) (by kernel_rfl) (fun _ _ _ h => h) (Or.inl ⟨by kernel_rfl, ?hy49r5n0q23⟩) (by assumption) ?hr49r5n0q23
        case hy49r5n0q23 => (intro w hSw; (try dsimp only at hSw); skip; first | (go_simp; done) | (go_simp; with_reducible rfl))
        refine wpAnyH_ready (rs := [8]) (by kernel_rfl) (by simp) (AllReadyH.cons rfl (fun K hK => ?hc49r5n0q24) AllReadyH.nil)
        (refine step_store_mid rfl 94 _ _ rfl _ 0 (partC ⟨zn, zp, zl, ByteArray.empty, true⟩) rfl rfl (there_of_arr hL5 (Nat.le_refl 5)) row_part.2 (part_one _) _ rfl ?_; have hk := below_setCells _ hg5 (partC ⟨zn, zp, zl, ByteArray.empty, true⟩).toList 0 _ hk)
        refine hK.out _ _ ?hs49r5n0q24 (fun hHeld49r5n0q24 => ?ht49r5n0q24)
        case hs49r5n0q24 => ((try dsimp only); (first | (with_reducible exact hHeld) | exact hk | exact hk.drew))
        clear hHeld hK
        have hHeld := hHeld49r5n0q24
        clear hHeld49r5n0q24
        refine wpAnyH_done (by kernel_rfl) ?_ _
        clear hHeld
        refine NoPanic.normal ?_
      all_goals
        (try dsimp only [Exit.inBlock, Exit.then])
        exact hMK _ _ ⟨rfl, rfl, by kernel_rfl, by kernel_rfl, by kernel_rfl, by kernel_rfl, by first | exact hk | exact hk.drew, _, by kernel_rfl, hg5, part_set hL5 rfl _⟩
    rintro ⟨tD, dD⟩ W ⟨h79, hds, e0, e2, e3, e4, hbW, B5, e5, hB5, hq5⟩
    simp only at h79 hds e0 e2 e3 e4 e5
    subst hds
    try dsimp only [Exit.then]
    rw [frame79 tD [] h79, e0, e2, e3, e4, e5]
    clear h79 e0 e2 e3 e4 e5 hk0
    obtain ⟨n, hn⟩ : ∃ n, n = payN (nums s) := ⟨_, rfl⟩
    have hzr : 0 ≤ zl := by
      rw [HZ.out.2.2]
      exact (getN_rng _ (fun x hx => nums_rng s x (List.mem_of_mem_drop (List.mem_of_mem_take hx)))).1
    have hn48 : n ≤ 48 ∧ (n : Int) = min zl 48 := by
      have : n = (min zl 48).toNat := by rw [hn, HZ.out.2.2]; rfl
      omega
    have HN := hidep hn
    clear hn
    have hpc := box5p hq5
    refine wp_seq ?_
    refine wp_region_lit ?_
    refine wpList_value rfl (v := .pointer (some ⟨B5, 2, none⟩)) (w' := W) (by kernel_rfl) ?_
    refine wpList_value rfl (v := .int .i64 zl) (w' := W) (by
      have e : ∀ ev : Operand → Value, ev (.tmp 25) = .pointer (some ⟨B5, 2, none⟩) → (execOp ev ⟨some 26, .load 3 (.tmp 25), 3, "", #[], none⟩).run Tryz.prog W = .ok (.value (.int .i64 zl)) W := fun ev ha => by
        have c2 := hpc.2.2.1
        go_simp
      exact e _ (by kernel_rfl)) ?_
    refine wpList_value rfl (v := .int .i64 (n : Int)) (w' := W) (by
      have e : ∀ ev : Operand → Value, ev (.tmp 26) = .int .i64 zl → ev (.const (.int .i64 48)) = .int .i64 48 → (execOp ev ⟨some 27, .call { callee := .builtin .min, args := #[.tmp 26, .const (.int .i64 48)], argTypes := #[3, 3] }, 3, "", #[], none⟩).run Tryz.prog W = .ok (.value (.int .i64 (n : Int))) W := fun ev ha hc => by
        have hm := hn48.2
        by_cases hle : zl ≤ 48
        · have hmn : (n : Int) = zl := by omega
          rw [hmn]
          go_simp
          all_goals (intro h; omega)
        · have hmn : (n : Int) = 48 := by omega
          rw [hmn]
          go_simp
      exact e _ (by kernel_rfl) rfl) ?_
    refine wpList_value rfl (v := .int .i64 (n : Int)) (w' := W) (by kernel_rfl) ?_
    refine wpList_nil ?_
    dsimp only [Exit.then]
    refine wp_seq ?_
    refine wp_region_lit ?_
    refine wpList_value rfl (v := .int .i64 (n : Int)) (w' := W) (by kernel_rfl) ?_
    refine wpList_value rfl (v := .int .i64 ((48 - n : Nat) : Int)) (w' := W) (by
      have e : ∀ ev : Operand → Value, ev (.tmp 28) = .int .i64 (n : Int) → ev (.const (.int .i64 48)) = .int .i64 48 → (execOp ev ⟨some 29, .binOp .sub 3 (.const (.int .i64 48)) (.tmp 28) 3, 3, "", #[], none⟩).run Tryz.prog W = .ok (.value (.int .i64 ((48 - n : Nat) : Int))) W := fun ev ha hc => by
        have hsub : IntKind.i64.wrap (48 - (n : Int)) = ((48 - n : Nat) : Int) := by rw [IntWalk.i64_in _ (by omega)]; omega
        clear hn48
        go_simp
      exact e _ (by kernel_rfl) rfl) ?_
    refine wpList_value rfl (v := .slice (some ⟨W.heap.size, 0, none⟩) (48 - n) (48 - n)) (w' := W.alloc (.cells (byC (List.replicate (48 - n) 0)).toArray 5)) (by
      have e : ∀ ev : Operand → Value, ev (.tmp 29) = .int .i64 ((48 - n : Nat) : Int) → (execOp ev ⟨some 30, .makeSlice 81 (.tmp 29) (.tmp 29), 81, "", #[], none⟩).run Tryz.prog W = .ok (.value (.slice (some ⟨W.heap.size, 0, none⟩) (48 - n) (48 - n))) (W.alloc (.cells (byC (List.replicate (48 - n) 0)).toArray 5)) := fun ev ha => by
        have hmk := mk_bytes (48 - n) (by omega) W
        simp [execOp, ha, hmk, Result.andThen]
      exact e _ (by kernel_rfl)) ?_
    refine wpList_value rfl (v := .slice (some ⟨W.heap.size, 0, none⟩) (48 - n) (48 - n)) (w' := W.alloc (.cells (byC (List.replicate (48 - n) 0)).toArray 5)) (by kernel_rfl) ?_
    refine wpList_nil ?_
    dsimp only [Exit.then]
    refine wp_abs (fun V => V.heap[W.heap.size]? = some (.cells (byC (List.replicate (48 - n) 0)).toArray 5) ∧ V.heap[B5]? = some (.cells (partC ⟨zn, zp, zl, ByteArray.empty, true⟩) 94) ∧ Below Z.heap.size Z V) ⟨heap_alloc_new _ _, below_push ((Below.refl _ _).alloc (Nat.le_refl _) _) hq5, hbW.alloc hbW.size _⟩ ?_
    rintro V ⟨hqG, hq5V, hbV⟩
    obtain ⟨G, hG⟩ : ∃ G, G = W.heap.size := ⟨_, rfl⟩
    refine wp_cutA 79 (fun tm ds => ds = [] ∧ slot tm 0 = .string s ∧ slot tm 2 = .pointer (some ⟨B2, 0, none⟩) ∧ slot tm 3 = .pointer (some ⟨A, 0, none⟩) ∧ slot tm 4 = .pointer (some ⟨E, 0, none⟩) ∧ slot tm 5 = .pointer (some ⟨B5, 0, none⟩) ∧ slot tm 6 = .int .i64 (n : Int) ∧ slot tm 7 = .slice (some ⟨G, 0, none⟩) (48 - n) (48 - n)) (by kernel_rfl) (by exact ⟨by kernel_rfl, by kernel_rfl, by kernel_rfl, by kernel_rfl, by kernel_rfl, by kernel_rfl, by kernel_rfl, by rw [hG]; kernel_rfl⟩) ?_
    rintro tE dE h79 ⟨rfl, e0, e2, e3, e4, e5, e6, e7⟩
    rw [frame79 tE [] h79, e0, e2, e3, e4, e5, e6, e7]
    rw [← hG] at hqG
    clear h79 e0 e2 e3 e4 e5 e6 e7 hG hpc hq5 hbW
    -- what the two comparisons see
    obtain ⟨l, hl⟩ : ∃ l, l = nums s := ⟨_, rfl⟩
    have hl64 : l.length = 64 := by rw [hl, nums_len, hs]
    have hlr : ∀ x ∈ l, 0 ≤ x ∧ x < 256 := by rw [hl]; exact nums_rng s
    have hOr : ∀ x ∈ O, 0 ≤ x ∧ x < 256 := by rw [HO.out.1]; exact sha_rng H
    have HLL := hidep (And.intro hl (And.intro hl64 (And.intro hlr hOr)))
    have hEqA := hidep (show ∀ Y, Below V.heap.size V Y → (convert 81 9 (.slice (some ⟨E, 0, none⟩) 8 32)).run Tryz.prog Y = .ok (.string (strOfNums (O.take 8))) Y ∧ (convert 81 9 (.slice (some ⟨A, 56, none⟩) 8 8)).run Tryz.prog Y = .ok (.string (strOfNums (l.drop 56))) Y ∧ (convert 81 9 (.slice (some ⟨A, 8 + n, none⟩) (48 - n) (56 - n))).run Tryz.prog Y = .ok (.string (strOfNums ((l.take 56).drop (8 + n)))) Y ∧ (convert 81 9 (.slice (some ⟨G, 0, none⟩) (48 - n) (48 - n))).run Tryz.prog Y = .ok (.string (strOfNums (List.replicate (48 - n) 0))) Y from by
      intro Y hY
      have hZY := hbV.trans (hY.mono hbV.size)
      have q1 := below_push hZY HQ.out.1
      have q2 := below_push hZY HQ.out.2.1
      have q3 := below_push hY hqG
      rw [HSL.out, ← hl] at q2
      have hO32 : O.length = 32 := by have := HO.out.2.1; rwa [byC_length] at this
      refine ⟨conv_at q1 (by rw [List.length_take]; omega) (by rw [byC_length] <;> omega) (fun i hi => ?_), conv_at q2 (by rw [List.length_drop]; omega) (by rw [byC_length] <;> omega) (fun i hi => ?_), conv_at q2 (by rw [List.length_drop, List.length_take]; omega) (by rw [byC_length] <;> omega) (fun i hi => ?_), conv_at q3 (by simp) (by rw [byC_length] <;> simp) (fun i hi => ?_)⟩
      · rw [Nat.zero_add, List.getD_eq_getElem?_getD, List.getD_eq_getElem?_getD, List.getElem?_take_of_lt hi]
      · rw [List.getD_eq_getElem?_getD, List.getD_eq_getElem?_getD, List.getElem?_drop]
      · rw [List.getD_eq_getElem?_getD, List.getD_eq_getElem?_getD, List.getElem?_drop, List.getElem?_take_of_lt (by omega)]
      · rw [Nat.zero_add])
    clear hl hl64 hlr hOr hqG
    have hinj : ∀ {a b : List Int}, (∀ x ∈ a, 0 ≤ x ∧ x < 256) → (∀ x ∈ b, 0 ≤ x ∧ x < 256) → strOfNums a = strOfNums b → a = b := fun ha hb h => by
      rw [← nums_str' ha, h, nums_str' hb]
    have HE1 := hidep (show (¬ O.take 8 = l.drop 56 → ∀ Y, Below V.heap.size V Y → Calls Tryz.prog 77 #[.slice (some ⟨E, 0, none⟩) 8 32, .slice (some ⟨A, 56, none⟩) 8 8] Y fun e w' => e = .returned (.bool false) ∧ w' = Y) ∧ (O.take 8 = l.drop 56 → ∀ Y, Below V.heap.size V Y → Calls Tryz.prog 77 #[.slice (some ⟨E, 0, none⟩) 8 32, .slice (some ⟨A, 56, none⟩) 8 8] Y fun e w' => e = .returned (.bool true) ∧ w' = Y) from by
      constructor
      · intro hne Y hY
        have h := eq_any _ _ _ _ Y (hEqA.out Y hY).1 (hEqA.out Y hY).2.1
        rw [decide_eq_false (fun e => hne (hinj (fun x hx => HLL.out.2.2.2 x (List.mem_of_mem_take hx)) (fun x hx => HLL.out.2.2.1 x (List.mem_of_mem_drop hx)) e))] at h
        exact h
      · intro he Y hY
        have h := eq_any _ _ _ _ Y (hEqA.out Y hY).1 (hEqA.out Y hY).2.1
        rw [decide_eq_true (by rw [he])] at h
        exact h)
    obtain ⟨b2, hb2⟩ : ∃ b2, b2 = decide ((l.take 56).drop (8 + n) = List.replicate (48 - n) 0) := ⟨_, rfl⟩
    have HE2 := hidep (show ∀ Y, Below V.heap.size V Y → Calls Tryz.prog 77 #[.slice (some ⟨A, 8 + n, none⟩) (48 - n) (56 - n), .slice (some ⟨G, 0, none⟩) (48 - n) (48 - n)] Y fun e w' => e = .returned (.bool b2) ∧ w' = Y from fun Y hY => by
      have h := eq_any _ _ _ _ Y (hEqA.out Y hY).2.2.1 (hEqA.out Y hY).2.2.2
      rw [show decide (strOfNums ((l.take 56).drop (8 + n)) = strOfNums (List.replicate (48 - n) 0)) = b2 from by
        rw [hb2]
        exact decide_eq_decide.2 ⟨hinj (fun x hx => HLL.out.2.2.1 x (List.mem_of_mem_take (List.mem_of_mem_drop hx))) (fun x hx => by rw [(List.mem_replicate.1 hx).2]; decide), fun e => by rw [e]⟩] at h
      exact h)
    obtain ⟨bd, hbd⟩ : ∃ bd, bd = decide (badZ l) := ⟨_, rfl⟩
    have HBAD := hidep (show ((¬ O.take 8 = l.drop 56 ∨ zn = 0 ∨ 4096 < zn ∨ 8000 < 48 * zp + zl ∨ (zl = 0 ∧ 0 < zp)) → bd = true) ∧ (O.take 8 = l.drop 56 → ¬ zn = 0 → ¬ 4096 < zn → ¬ 8000 < 48 * zp + zl → ¬ (zl = 0 ∧ 0 < zp) → bd = !b2) from by
      have k1 : O = sha56 (l.take 56) := by rw [HO.out.1, HO.out.2.2, HLL.out.1]
      have k2 : zn = numZ l := by rw [HZ.out.1, HLL.out.1]
      have k3 : zp = partNo l := by rw [HZ.out.2.1, HLL.out.1]
      have k4 : zl = leftZ l := by rw [HZ.out.2.2, HLL.out.1]
      have k5 : n = payN l := by rw [HN.out, HLL.out.1]
      rw [hbd, hb2, k1, k2, k3, k4, k5]
      constructor
      · intro h
        refine decide_eq_true ?_
        unfold badZ
        rcases h with h | h | h | h | h
        · exact .inl h
        · exact .inr (.inl h)
        · exact .inr (.inr (.inl h))
        · exact .inr (.inr (.inr (.inl h)))
        · exact .inr (.inr (.inr (.inr (.inl h))))
      · intro h1 h2 h3 h4 h5
        rw [← decide_not]
        refine decide_eq_decide.2 ⟨fun h => ?_, fun h => .inr (.inr (.inr (.inr (.inr h))))⟩
        unfold badZ at h
        rcases h with h | h | h | h | h | h
        · exact absurd h1 h
        · exact absurd h h2
        · exact absurd h h3
        · exact absurd h h4
        · exact absurd h h5
        · exact h)
    have HBDE := hidep hbd
    have HCV := hidep (show ∀ Y, Below V.heap.size V Y → Y.cell? ⟨B5, 0, none⟩ = some (.int .i64 zn) ∧ Y.cell? ⟨B5, 1, none⟩ = some (.int .i64 zp) ∧ Y.cell? ⟨B5, 2, none⟩ = some (.int .i64 zl) from fun Y hY => by
      have h := box5p (below_push hY hq5V)
      exact ⟨h.1, h.2.1, h.2.2.1⟩)
    have hrngp : 0 ≤ zp ∧ zp < 65536 := by
      have h := getN_rng (((nums s).drop 4).take 2) (fun x hx => nums_rng s x (List.mem_of_mem_drop (List.mem_of_mem_take hx)))
      have h2 : (((nums s).drop 4).take 2).length = 2 := by rw [List.length_take, List.length_drop, nums_len, hs]; rfl
      rw [h2] at h
      rw [HZ.out.2.1]
      exact h
    have hrngl : zl < 65536 := by
      have h := getN_rng (((nums s).drop 6).take 2) (fun x hx => nums_rng s x (List.mem_of_mem_drop (List.mem_of_mem_take hx)))
      have h2 : (((nums s).drop 6).take 2).length = 2 := by rw [List.length_take, List.length_drop, nums_len, hs]; rfl
      rw [h2] at h
      rw [HZ.out.2.2]
      exact h.2
    have hw1 : IntKind.i64.wrap (48 * zp) = 48 * zp := IntWalk.i64_in _ (by omega)
    have hw2 : IntKind.i64.wrap (48 * zp + zl) = 48 * zp + zl := IntWalk.i64_in _ (by omega)
    have hw3 : IntKind.i64.wrap (8 + (n : Int)) = 8 + (n : Int) := IntWalk.i64_in _ (by omega)
    have hsl := sect_sl A (8 + n) (by omega)
    rw [show 56 - (8 + n) = 48 - n from by omega, show 64 - (8 + n) = 56 - n from by omega, show ((8 + n : Nat) : Int) = 8 + (n : Int) from by omega] at hsl
    have hn48' := hn48.1
    clear hinj hb2 hbd hn48 hrngp hrngl hzr
    refine wp_seq ?_
    refine wp_seq ?_
    refine wp_join (UnpM V s B2 B5 n bd) ?chk ?_
    case chk =>
      intro K' hMK
    -- CHECKS
      by_cases p1 : O.take 8 = l.drop 56
      · have hE1 := hidep (HE1.out.2 p1)
        by_cases p2 : zn = 0
        · have hbad := HBAD.out.1 (.inr (.inl p2))
          have g0 : (zn == 0) = true := by simp [p2]
          clear p1 p2
          refine wp_region_noPanic (wp_region_held_drew (S := (fun Y => Below V.heap.size V Y)) (by kernel_rfl) ?hS49r8n1 (fun hHeld => ?hR49r8n1))
          case hS49r8n1 => ((try dsimp only); (exact (Below.refl _ _).drew))
          refine wpAnyH_take (i := 0) (v := ?v49r8n1q1) rfl (by kernel_rfl) (by kernel_rfl) (by kernel_rfl) (fun _ _ _ h => h) (Or.inl ⟨by kernel_rfl, ?hy49r8n1q1⟩) (by assumption) ?hr49r8n1q1
          case hy49r8n1q1 => (intro w hSw; (try dsimp only at hSw); (obtain ⟨c0, c1, c2⟩ := HCV.out w hSw); first | (go_simp; done) | (go_simp; with_reducible rfl))
          refine wpAnyH_take (i := 1) (v := ?v49r8n1q2) rfl (by kernel_rfl) (by kernel_rfl) (by kernel_rfl) (fun _ _ _ h => h) (Or.inl ⟨by kernel_rfl, ?hy49r8n1q2⟩) (by assumption) ?hr49r8n1q2
          case hy49r8n1q2 => (intro w hSw; (try dsimp only at hSw); (obtain ⟨c0, c1, c2⟩ := HCV.out w hSw); first | (go_simp; done) | (go_simp; with_reducible rfl))
          refine wpAnyH_ready (rs := [2]) (by kernel_rfl) (by simp) (AllReadyH.cons rfl (fun K hK => ?hc49r8n1q3) AllReadyH.nil)
          go_simp
          (go_at_call 77; refine (hE1.out _ hHeld).mono ?_; rintro e w33 ⟨rfl, rfl⟩; (try dsimp only))
          refine hK.out _ _ ?hs49r8n1q3 (fun hHeld49r8n1q3 => ?ht49r8n1q3)
          case hs49r8n1q3 => ((try dsimp only); (exact hHeld))
          clear hHeld hK
          have hHeld := hHeld49r8n1q3
          clear hHeld49r8n1q3
          refine wpAnyH_take (i := 3) (v := ?v49r8n1q4) rfl (by kernel_rfl) (by kernel_rfl) (by kernel_rfl) (fun _ _ _ h => h) (Or.inl ⟨by kernel_rfl, ?hy49r8n1q4⟩) (by assumption) ?hr49r8n1q4
          case hy49r8n1q4 => (intro w hSw; (try dsimp only at hSw); (obtain ⟨c0, c1, c2⟩ := HCV.out w hSw); first | (go_simp; done) | (go_simp; with_reducible rfl))
          refine wpAnyH_take (i := 4) (v := ?v49r8n1q5) rfl (by kernel_rfl) (by kernel_rfl) (by kernel_rfl) (fun _ _ _ h => h) (Or.inl ⟨by kernel_rfl, ?hy49r8n1q5⟩) (by assumption) ?hr49r8n1q5
          case hy49r8n1q5 => (intro w hSw; (try dsimp only at hSw); (obtain ⟨c0, c1, c2⟩ := HCV.out w hSw); first | (go_simp; done) | (go_simp; with_reducible rfl))
          refine wpAnyH_take (i := 5) (v := ?v49r8n1q6) rfl (by kernel_rfl) (by kernel_rfl) (by kernel_rfl) (fun _ _ _ h => h) (Or.inl ⟨by kernel_rfl, ?hy49r8n1q6⟩) (by assumption) ?hr49r8n1q6
          case hy49r8n1q6 => (intro w hSw; (try dsimp only at hSw); (obtain ⟨c0, c1, c2⟩ := HCV.out w hSw); first | (go_simp; done) | (go_simp; with_reducible rfl))
          refine wpAnyH_take (i := 6) (v := ?v49r8n1q7) rfl (by kernel_rfl) (by kernel_rfl) (by kernel_rfl) (fun _ _ _ h => h) (Or.inl ⟨by kernel_rfl, ?hy49r8n1q7⟩) (by assumption) ?hr49r8n1q7
          case hy49r8n1q7 => (intro w hSw; (try dsimp only at hSw); (obtain ⟨c0, c1, c2⟩ := HCV.out w hSw); first | (go_simp; done) | (go_simp; with_reducible rfl))
          refine wpAnyH_take (i := 7) (v := ?v49r8n1q8) rfl (by kernel_rfl) (by kernel_rfl) (by kernel_rfl) (fun _ _ _ h => h) (Or.inl ⟨by kernel_rfl, ?hy49r8n1q8⟩) (by assumption) ?hr49r8n1q8
          case hy49r8n1q8 => (intro w hSw; (try dsimp only at hSw); (obtain ⟨c0, c1, c2⟩ := HCV.out w hSw); first | (go_simp; done) | (go_simp; with_reducible rfl))
          refine wpAnyH_take (i := 8) (v := ?v49r8n1q9) rfl (by kernel_rfl) (by kernel_rfl) (by kernel_rfl) (fun _ _ _ h => h) (Or.inl ⟨by kernel_rfl, ?hy49r8n1q9⟩) (by assumption) ?hr49r8n1q9
          case hy49r8n1q9 => (intro w hSw; (try dsimp only at hSw); (obtain ⟨c0, c1, c2⟩ := HCV.out w hSw); first | (go_simp; done) | (go_simp; with_reducible rfl))
          refine wpAnyH_take (i := 9) (v := ?v49r8n1q10) rfl (by kernel_rfl) (by kernel_rfl) (by kernel_rfl) (fun _ _ _ h => h) (Or.inl ⟨by kernel_rfl, ?hy49r8n1q10⟩) (by assumption) ?hr49r8n1q10
          case hy49r8n1q10 => (intro w hSw; (try dsimp only at hSw); (obtain ⟨c0, c1, c2⟩ := HCV.out w hSw); first | (go_simp; done) | (go_simp; with_reducible rfl))
          refine wpAnyH_take (i := 10) (v := undef) rfl (by kernel_rfl) (by kernel_rfl) (by kernel_rfl) (fun _ _ _ h => h) (Or.inr ⟨by kernel_rfl, rfl⟩) (by assumption) ?_
          refine wpAnyH_take (i := 11) (v := undef) rfl (by kernel_rfl) (by kernel_rfl) (by kernel_rfl) (fun _ _ _ h => h) (Or.inr ⟨by kernel_rfl, rfl⟩) (by assumption) ?_
          refine wpAnyH_take (i := 12) (v := undef) rfl (by kernel_rfl) (by kernel_rfl) (by kernel_rfl) (fun _ _ _ h => h) (Or.inr ⟨by kernel_rfl, rfl⟩) (by assumption) ?_
          refine wpAnyH_take (i := 13) (v := ?v49r8n1q14) rfl (by kernel_rfl) (by kernel_rfl) (by kernel_rfl) (fun _ _ _ h => h) (Or.inl ⟨by kernel_rfl, ?hy49r8n1q14⟩) (by assumption) ?hr49r8n1q14
          case hy49r8n1q14 => (intro w hSw; (try dsimp only at hSw); (obtain ⟨c0, c1, c2⟩ := HCV.out w hSw); first | (go_simp; done) | (go_simp; with_reducible rfl))
          refine wpAnyH_take (i := 14) (v := ?v49r8n1q15) rfl (by kernel_rfl) (by kernel_rfl) (by kernel_rfl) (fun _ _ _ h => h) (Or.inl ⟨by kernel_rfl, ?hy49r8n1q15⟩) (by assumption) ?hr49r8n1q15
          case hy49r8n1q15 => (intro w hSw; (try dsimp only at hSw); (obtain ⟨c0, c1, c2⟩ := HCV.out w hSw); first | (go_simp; done) | (go_simp; with_reducible rfl))
          refine wpAnyH_take (i := 15) (v := undef) rfl (by kernel_rfl) (by kernel_rfl) (by kernel_rfl) (fun _ _ _ h => h) (Or.inr ⟨by kernel_rfl, rfl⟩) (by assumption) ?_
          refine wpAnyH_take (i := 16) (v := undef) rfl (by kernel_rfl) (by kernel_rfl) (by kernel_rfl) (fun _ _ _ h => h) (Or.inr ⟨by kernel_rfl, rfl⟩) (by assumption) ?_
          refine wpAnyH_take (i := 17) (v := undef) rfl (by kernel_rfl) (by kernel_rfl) (by kernel_rfl) (fun _ _ _ h => h) (Or.inr ⟨by kernel_rfl, rfl⟩) (by assumption) ?_
          refine wpAnyH_take (i := 18) (v := undef) rfl (by kernel_rfl) (by kernel_rfl) (by kernel_rfl) (fun _ _ _ h => h) (Or.inr ⟨by kernel_rfl, rfl⟩) (by assumption) ?_
          refine wpAnyH_take (i := 19) (v := undef) rfl (by kernel_rfl) (by kernel_rfl) (by kernel_rfl) (fun _ _ _ h => h) (Or.inr ⟨by kernel_rfl, rfl⟩) (by assumption) ?_
          refine wpAnyH_take (i := 20) (v := undef) rfl (by kernel_rfl) (by kernel_rfl) (by kernel_rfl) (fun _ _ _ h => h) (Or.inr ⟨by kernel_rfl, rfl⟩) (by assumption) ?_
          refine wpAnyH_take (i := 21) (v := undef) rfl (by kernel_rfl) (by kernel_rfl) (by kernel_rfl) (fun _ _ _ h => h) (Or.inr ⟨by kernel_rfl, rfl⟩) (by assumption) ?_
          refine wpAnyH_take (i := 22) (v := ?v49r8n1q23) rfl (by kernel_rfl) (by kernel_rfl) (by kernel_rfl) (fun _ _ _ h => h) (Or.inl ⟨by kernel_rfl, ?hy49r8n1q23⟩) (by assumption) ?hr49r8n1q23
          case hy49r8n1q23 => (intro w hSw; (try dsimp only at hSw); (obtain ⟨c0, c1, c2⟩ := HCV.out w hSw); first | (go_simp; done) | (go_simp; with_reducible rfl))
          refine wpAnyH_take (i := 23) (v := ?v49r8n1q24) rfl (by kernel_rfl) (by kernel_rfl) (by kernel_rfl) (fun _ _ _ h => h) (Or.inl ⟨by kernel_rfl, ?hy49r8n1q24⟩) (by assumption) ?hr49r8n1q24
          case hy49r8n1q24 => (intro w hSw; (try dsimp only at hSw); (obtain ⟨c0, c1, c2⟩ := HCV.out w hSw); first | (go_simp; done) | (go_simp; with_reducible rfl))
          refine wpAnyH_take (i := 24) (v := undef) rfl (by kernel_rfl) (by kernel_rfl) (by kernel_rfl) (fun _ _ _ h => h) (Or.inr ⟨by kernel_rfl, rfl⟩) (by assumption) ?_
          refine wpAnyH_take (i := 25) (v := undef) rfl (by kernel_rfl) (by kernel_rfl) (by kernel_rfl) (fun _ _ _ h => h) (Or.inr ⟨by kernel_rfl, rfl⟩) (by assumption) ?_
          refine wpAnyH_take (i := 26) (v := undef) rfl (by kernel_rfl) (by kernel_rfl) (by kernel_rfl) (fun _ _ _ h => h) (Or.inr ⟨by kernel_rfl, rfl⟩) (by assumption) ?_
          refine wpAnyH_take (i := 27) (v := undef) rfl (by kernel_rfl) (by kernel_rfl) (by kernel_rfl) (fun _ _ _ h => h) (Or.inr ⟨by kernel_rfl, rfl⟩) (by assumption) ?_
          refine wpAnyH_take (i := 28) (v := undef) rfl (by kernel_rfl) (by kernel_rfl) (by kernel_rfl) (fun _ _ _ h => h) (Or.inr ⟨by kernel_rfl, rfl⟩) (by assumption) ?_
          refine wpAnyH_take (i := 29) (v := undef) rfl (by kernel_rfl) (by kernel_rfl) (by kernel_rfl) (fun _ _ _ h => h) (Or.inr ⟨by kernel_rfl, rfl⟩) (by assumption) ?_
          refine wpAnyH_take (i := 30) (v := undef) rfl (by kernel_rfl) (by kernel_rfl) (by kernel_rfl) (fun _ _ _ h => h) (Or.inr ⟨by kernel_rfl, rfl⟩) (by assumption) ?_
          refine wpAnyH_take (i := 31) (v := undef) rfl (by kernel_rfl) (by kernel_rfl) (by kernel_rfl) (fun _ _ _ h => h) (Or.inr ⟨by kernel_rfl, rfl⟩) (by assumption) ?_
          refine wpAnyH_take (i := 32) (v := ?v49r8n1q33) rfl (by kernel_rfl) (by kernel_rfl) (by kernel_rfl) (fun _ _ _ h => h) (Or.inl ⟨by kernel_rfl, ?hy49r8n1q33⟩) (by assumption) ?hr49r8n1q33
          case hy49r8n1q33 => (intro w hSw; (try dsimp only at hSw); (obtain ⟨c0, c1, c2⟩ := HCV.out w hSw); first | (go_simp; done) | (go_simp; with_reducible rfl))
          refine wpAnyH_take (i := 33) (v := ?v49r8n1q34) rfl (by kernel_rfl) (by kernel_rfl) (by kernel_rfl) (fun _ _ _ h => h) (Or.inl ⟨by kernel_rfl, ?hy49r8n1q34⟩) (by assumption) ?hr49r8n1q34
          case hy49r8n1q34 => (intro w hSw; (try dsimp only at hSw); (obtain ⟨c0, c1, c2⟩ := HCV.out w hSw); first | (go_simp; done) | (go_simp; with_reducible rfl))
          refine wpAnyH_take (i := 34) (v := undef) rfl (by kernel_rfl) (by kernel_rfl) (by kernel_rfl) (fun _ _ _ h => h) (Or.inr ⟨by kernel_rfl, rfl⟩) (by assumption) ?_
          refine wpAnyH_take (i := 35) (v := undef) rfl (by kernel_rfl) (by kernel_rfl) (by kernel_rfl) (fun _ _ _ h => h) (Or.inr ⟨by kernel_rfl, rfl⟩) (by assumption) ?_
          refine wpAnyH_take (i := 36) (v := undef) rfl (by kernel_rfl) (by kernel_rfl) (by kernel_rfl) (fun _ _ _ h => h) (Or.inr ⟨by kernel_rfl, rfl⟩) (by assumption) ?_
          refine wpAnyH_take (i := 37) (v := undef) rfl (by kernel_rfl) (by kernel_rfl) (by kernel_rfl) (fun _ _ _ h => h) (Or.inr ⟨by kernel_rfl, rfl⟩) (by assumption) ?_
          refine wpAnyH_ready (rs := [38]) (by kernel_rfl) (by simp) (AllReadyH.cons rfl (fun K hK => ?hc49r8n1q39) AllReadyH.nil)
          first | rw [if_neg (ne_true_of_eq_false (by kernel_rfl))] | rw [if_neg (by decide)]
          refine hK.out _ _ ?hs49r8n1q39 (fun hHeld49r8n1q39 => ?ht49r8n1q39)
          case hs49r8n1q39 => ((try dsimp only); (exact hHeld))
          clear hHeld hK
          have hHeld := hHeld49r8n1q39
          clear hHeld49r8n1q39
          refine wpAnyH_take (i := 39) (v := undef) rfl (by kernel_rfl) (by kernel_rfl) (by kernel_rfl) (fun _ _ _ h => h) (Or.inr ⟨by kernel_rfl, rfl⟩) (by assumption) ?_
          refine wpAnyH_take (i := 40) (v := ?v49r8n1q41) rfl (by kernel_rfl) (by kernel_rfl) (by kernel_rfl) (fun _ _ _ h => h) (Or.inl ⟨by kernel_rfl, ?hy49r8n1q41⟩) (by assumption) ?hr49r8n1q41
          case hy49r8n1q41 => (intro w hSw; (try dsimp only at hSw); (obtain ⟨c0, c1, c2⟩ := HCV.out w hSw); first | (go_simp; done) | (go_simp; with_reducible rfl))
          refine wpAnyH_done (by kernel_rfl) ?_ _
          clear hHeld
          refine NoPanic.normal ?_
          (try dsimp only [Exit.inBlock, Exit.then])
          exact hMK _ _ ⟨by kernel_rfl, by kernel_rfl, by kernel_rfl, by kernel_rfl, by kernel_rfl, by kernel_rfl, (Eq.trans (by kernel_rfl) (congrArg Value.bool hbad.symm)), (Below.refl _ _).drew⟩
        have g0 : (zn == 0) = false := by simp [p2]
        by_cases p3 : 4096 < zn
        · have hbad := HBAD.out.1 (.inr (.inr (.inl p3)))
          have g1 : zn > 4096 := p3
          clear p1 p2
          refine wp_region_noPanic (wp_region_held_drew (S := (fun Y => Below V.heap.size V Y)) (by kernel_rfl) ?hS49r8n2 (fun hHeld => ?hR49r8n2))
          case hS49r8n2 => ((try dsimp only); (exact (Below.refl _ _).drew))
          refine wpAnyH_take (i := 0) (v := ?v49r8n2q1) rfl (by kernel_rfl) (by kernel_rfl) (by kernel_rfl) (fun _ _ _ h => h) (Or.inl ⟨by kernel_rfl, ?hy49r8n2q1⟩) (by assumption) ?hr49r8n2q1
          case hy49r8n2q1 => (intro w hSw; (try dsimp only at hSw); (obtain ⟨c0, c1, c2⟩ := HCV.out w hSw); first | (go_simp; done) | (go_simp; with_reducible rfl))
          refine wpAnyH_take (i := 1) (v := ?v49r8n2q2) rfl (by kernel_rfl) (by kernel_rfl) (by kernel_rfl) (fun _ _ _ h => h) (Or.inl ⟨by kernel_rfl, ?hy49r8n2q2⟩) (by assumption) ?hr49r8n2q2
          case hy49r8n2q2 => (intro w hSw; (try dsimp only at hSw); (obtain ⟨c0, c1, c2⟩ := HCV.out w hSw); first | (go_simp; done) | (go_simp; with_reducible rfl))
          refine wpAnyH_ready (rs := [2]) (by kernel_rfl) (by simp) (AllReadyH.cons rfl (fun K hK => ?hc49r8n2q3) AllReadyH.nil)
          go_simp
          (go_at_call 77; refine (hE1.out _ hHeld).mono ?_; rintro e w33 ⟨rfl, rfl⟩; (try dsimp only))
          refine hK.out _ _ ?hs49r8n2q3 (fun hHeld49r8n2q3 => ?ht49r8n2q3)
          case hs49r8n2q3 => ((try dsimp only); (exact hHeld))
          clear hHeld hK
          have hHeld := hHeld49r8n2q3
          clear hHeld49r8n2q3
          refine wpAnyH_take (i := 3) (v := ?v49r8n2q4) rfl (by kernel_rfl) (by kernel_rfl) (by kernel_rfl) (fun _ _ _ h => h) (Or.inl ⟨by kernel_rfl, ?hy49r8n2q4⟩) (by assumption) ?hr49r8n2q4
          case hy49r8n2q4 => (intro w hSw; (try dsimp only at hSw); (obtain ⟨c0, c1, c2⟩ := HCV.out w hSw); first | (go_simp; done) | (go_simp; with_reducible rfl))
          refine wpAnyH_take (i := 4) (v := ?v49r8n2q5) rfl (by kernel_rfl) (by kernel_rfl) (by kernel_rfl) (fun _ _ _ h => h) (Or.inl ⟨by kernel_rfl, ?hy49r8n2q5⟩) (by assumption) ?hr49r8n2q5
          case hy49r8n2q5 => (intro w hSw; (try dsimp only at hSw); (obtain ⟨c0, c1, c2⟩ := HCV.out w hSw); first | (go_simp; done) | (go_simp; with_reducible rfl))
          refine wpAnyH_take (i := 5) (v := ?v49r8n2q6) rfl (by kernel_rfl) (by kernel_rfl) (by kernel_rfl) (fun _ _ _ h => h) (Or.inl ⟨by kernel_rfl, ?hy49r8n2q6⟩) (by assumption) ?hr49r8n2q6
          case hy49r8n2q6 => (intro w hSw; (try dsimp only at hSw); (obtain ⟨c0, c1, c2⟩ := HCV.out w hSw); first | (go_simp; done) | (go_simp; with_reducible rfl))
          refine wpAnyH_take (i := 6) (v := ?v49r8n2q7) rfl (by kernel_rfl) (by kernel_rfl) (by kernel_rfl) (fun _ _ _ h => h) (Or.inl ⟨by kernel_rfl, ?hy49r8n2q7⟩) (by assumption) ?hr49r8n2q7
          case hy49r8n2q7 => (intro w hSw; (try dsimp only at hSw); (obtain ⟨c0, c1, c2⟩ := HCV.out w hSw); first | (go_simp; done) | (go_simp; with_reducible rfl))
          refine wpAnyH_take (i := 7) (v := ?v49r8n2q8) rfl (by kernel_rfl) (by kernel_rfl) (by kernel_rfl) (fun _ _ _ h => h) (Or.inl ⟨by kernel_rfl, ?hy49r8n2q8⟩) (by assumption) ?hr49r8n2q8
          case hy49r8n2q8 => (intro w hSw; (try dsimp only at hSw); (obtain ⟨c0, c1, c2⟩ := HCV.out w hSw); first | (go_simp; done) | (go_simp; with_reducible rfl))
          refine wpAnyH_take (i := 8) (v := ?v49r8n2q9) rfl (by kernel_rfl) (by kernel_rfl) (by kernel_rfl) (fun _ _ _ h => h) (Or.inl ⟨by kernel_rfl, ?hy49r8n2q9⟩) (by assumption) ?hr49r8n2q9
          case hy49r8n2q9 => (intro w hSw; (try dsimp only at hSw); (obtain ⟨c0, c1, c2⟩ := HCV.out w hSw); first | (go_simp; done) | (go_simp; with_reducible rfl))
          refine wpAnyH_take (i := 9) (v := ?v49r8n2q10) rfl (by kernel_rfl) (by kernel_rfl) (by kernel_rfl) (fun _ _ _ h => h) (Or.inl ⟨by kernel_rfl, ?hy49r8n2q10⟩) (by assumption) ?hr49r8n2q10
          case hy49r8n2q10 => (intro w hSw; (try dsimp only at hSw); (obtain ⟨c0, c1, c2⟩ := HCV.out w hSw); first | (go_simp; done) | (go_simp; with_reducible rfl))
          refine wpAnyH_take (i := 10) (v := ?v49r8n2q11) rfl (by kernel_rfl) (by kernel_rfl) (by kernel_rfl) (fun _ _ _ h => h) (Or.inl ⟨by kernel_rfl, ?hy49r8n2q11⟩) (by assumption) ?hr49r8n2q11
          case hy49r8n2q11 => (intro w hSw; (try dsimp only at hSw); (obtain ⟨c0, c1, c2⟩ := HCV.out w hSw); first | (go_simp; done) | (go_simp; with_reducible rfl))
          refine wpAnyH_take (i := 11) (v := ?v49r8n2q12) rfl (by kernel_rfl) (by kernel_rfl) (by kernel_rfl) (fun _ _ _ h => h) (Or.inl ⟨by kernel_rfl, ?hy49r8n2q12⟩) (by assumption) ?hr49r8n2q12
          case hy49r8n2q12 => (intro w hSw; (try dsimp only at hSw); (obtain ⟨c0, c1, c2⟩ := HCV.out w hSw); first | (go_simp; done) | (go_simp; with_reducible rfl))
          refine wpAnyH_take (i := 12) (v := ?v49r8n2q13) rfl (by kernel_rfl) (by kernel_rfl) (by kernel_rfl) (fun _ _ _ h => h) (Or.inl ⟨by kernel_rfl, ?hy49r8n2q13⟩) (by assumption) ?hr49r8n2q13
          case hy49r8n2q13 => (intro w hSw; (try dsimp only at hSw); (obtain ⟨c0, c1, c2⟩ := HCV.out w hSw); first | (go_simp; done) | (go_simp; with_reducible rfl))
          refine wpAnyH_take (i := 13) (v := ?v49r8n2q14) rfl (by kernel_rfl) (by kernel_rfl) (by kernel_rfl) (fun _ _ _ h => h) (Or.inl ⟨by kernel_rfl, ?hy49r8n2q14⟩) (by assumption) ?hr49r8n2q14
          case hy49r8n2q14 => (intro w hSw; (try dsimp only at hSw); (obtain ⟨c0, c1, c2⟩ := HCV.out w hSw); first | (go_simp; done) | (go_simp; with_reducible rfl))
          refine wpAnyH_take (i := 14) (v := ?v49r8n2q15) rfl (by kernel_rfl) (by kernel_rfl) (by kernel_rfl) (fun _ _ _ h => h) (Or.inl ⟨by kernel_rfl, ?hy49r8n2q15⟩) (by assumption) ?hr49r8n2q15
          case hy49r8n2q15 => (intro w hSw; (try dsimp only at hSw); (obtain ⟨c0, c1, c2⟩ := HCV.out w hSw); first | (go_simp; done) | (go_simp; with_reducible rfl))
          refine wpAnyH_take (i := 15) (v := undef) rfl (by kernel_rfl) (by kernel_rfl) (by kernel_rfl) (fun _ _ _ h => h) (Or.inr ⟨by kernel_rfl, rfl⟩) (by assumption) ?_
          refine wpAnyH_take (i := 16) (v := undef) rfl (by kernel_rfl) (by kernel_rfl) (by kernel_rfl) (fun _ _ _ h => h) (Or.inr ⟨by kernel_rfl, rfl⟩) (by assumption) ?_
          refine wpAnyH_take (i := 17) (v := undef) rfl (by kernel_rfl) (by kernel_rfl) (by kernel_rfl) (fun _ _ _ h => h) (Or.inr ⟨by kernel_rfl, rfl⟩) (by assumption) ?_
          refine wpAnyH_take (i := 18) (v := undef) rfl (by kernel_rfl) (by kernel_rfl) (by kernel_rfl) (fun _ _ _ h => h) (Or.inr ⟨by kernel_rfl, rfl⟩) (by assumption) ?_
          refine wpAnyH_take (i := 19) (v := undef) rfl (by kernel_rfl) (by kernel_rfl) (by kernel_rfl) (fun _ _ _ h => h) (Or.inr ⟨by kernel_rfl, rfl⟩) (by assumption) ?_
          refine wpAnyH_take (i := 20) (v := undef) rfl (by kernel_rfl) (by kernel_rfl) (by kernel_rfl) (fun _ _ _ h => h) (Or.inr ⟨by kernel_rfl, rfl⟩) (by assumption) ?_
          refine wpAnyH_take (i := 21) (v := undef) rfl (by kernel_rfl) (by kernel_rfl) (by kernel_rfl) (fun _ _ _ h => h) (Or.inr ⟨by kernel_rfl, rfl⟩) (by assumption) ?_
          refine wpAnyH_take (i := 22) (v := ?v49r8n2q23) rfl (by kernel_rfl) (by kernel_rfl) (by kernel_rfl) (fun _ _ _ h => h) (Or.inl ⟨by kernel_rfl, ?hy49r8n2q23⟩) (by assumption) ?hr49r8n2q23
          case hy49r8n2q23 => (intro w hSw; (try dsimp only at hSw); (obtain ⟨c0, c1, c2⟩ := HCV.out w hSw); first | (go_simp; done) | (go_simp; with_reducible rfl))
          refine wpAnyH_take (i := 23) (v := ?v49r8n2q24) rfl (by kernel_rfl) (by kernel_rfl) (by kernel_rfl) (fun _ _ _ h => h) (Or.inl ⟨by kernel_rfl, ?hy49r8n2q24⟩) (by assumption) ?hr49r8n2q24
          case hy49r8n2q24 => (intro w hSw; (try dsimp only at hSw); (obtain ⟨c0, c1, c2⟩ := HCV.out w hSw); first | (go_simp; done) | (go_simp; with_reducible rfl))
          refine wpAnyH_take (i := 24) (v := undef) rfl (by kernel_rfl) (by kernel_rfl) (by kernel_rfl) (fun _ _ _ h => h) (Or.inr ⟨by kernel_rfl, rfl⟩) (by assumption) ?_
          refine wpAnyH_take (i := 25) (v := undef) rfl (by kernel_rfl) (by kernel_rfl) (by kernel_rfl) (fun _ _ _ h => h) (Or.inr ⟨by kernel_rfl, rfl⟩) (by assumption) ?_
          refine wpAnyH_take (i := 26) (v := undef) rfl (by kernel_rfl) (by kernel_rfl) (by kernel_rfl) (fun _ _ _ h => h) (Or.inr ⟨by kernel_rfl, rfl⟩) (by assumption) ?_
          refine wpAnyH_take (i := 27) (v := undef) rfl (by kernel_rfl) (by kernel_rfl) (by kernel_rfl) (fun _ _ _ h => h) (Or.inr ⟨by kernel_rfl, rfl⟩) (by assumption) ?_
          refine wpAnyH_take (i := 28) (v := undef) rfl (by kernel_rfl) (by kernel_rfl) (by kernel_rfl) (fun _ _ _ h => h) (Or.inr ⟨by kernel_rfl, rfl⟩) (by assumption) ?_
          refine wpAnyH_take (i := 29) (v := undef) rfl (by kernel_rfl) (by kernel_rfl) (by kernel_rfl) (fun _ _ _ h => h) (Or.inr ⟨by kernel_rfl, rfl⟩) (by assumption) ?_
          refine wpAnyH_take (i := 30) (v := undef) rfl (by kernel_rfl) (by kernel_rfl) (by kernel_rfl) (fun _ _ _ h => h) (Or.inr ⟨by kernel_rfl, rfl⟩) (by assumption) ?_
          refine wpAnyH_take (i := 31) (v := undef) rfl (by kernel_rfl) (by kernel_rfl) (by kernel_rfl) (fun _ _ _ h => h) (Or.inr ⟨by kernel_rfl, rfl⟩) (by assumption) ?_
          refine wpAnyH_take (i := 32) (v := ?v49r8n2q33) rfl (by kernel_rfl) (by kernel_rfl) (by kernel_rfl) (fun _ _ _ h => h) (Or.inl ⟨by kernel_rfl, ?hy49r8n2q33⟩) (by assumption) ?hr49r8n2q33
          case hy49r8n2q33 => (intro w hSw; (try dsimp only at hSw); (obtain ⟨c0, c1, c2⟩ := HCV.out w hSw); first | (go_simp; done) | (go_simp; with_reducible rfl))
          refine wpAnyH_take (i := 33) (v := ?v49r8n2q34) rfl (by kernel_rfl) (by kernel_rfl) (by kernel_rfl) (fun _ _ _ h => h) (Or.inl ⟨by kernel_rfl, ?hy49r8n2q34⟩) (by assumption) ?hr49r8n2q34
          case hy49r8n2q34 => (intro w hSw; (try dsimp only at hSw); (obtain ⟨c0, c1, c2⟩ := HCV.out w hSw); first | (go_simp; done) | (go_simp; with_reducible rfl))
          refine wpAnyH_take (i := 34) (v := undef) rfl (by kernel_rfl) (by kernel_rfl) (by kernel_rfl) (fun _ _ _ h => h) (Or.inr ⟨by kernel_rfl, rfl⟩) (by assumption) ?_
          refine wpAnyH_take (i := 35) (v := undef) rfl (by kernel_rfl) (by kernel_rfl) (by kernel_rfl) (fun _ _ _ h => h) (Or.inr ⟨by kernel_rfl, rfl⟩) (by assumption) ?_
          refine wpAnyH_take (i := 36) (v := undef) rfl (by kernel_rfl) (by kernel_rfl) (by kernel_rfl) (fun _ _ _ h => h) (Or.inr ⟨by kernel_rfl, rfl⟩) (by assumption) ?_
          refine wpAnyH_take (i := 37) (v := undef) rfl (by kernel_rfl) (by kernel_rfl) (by kernel_rfl) (fun _ _ _ h => h) (Or.inr ⟨by kernel_rfl, rfl⟩) (by assumption) ?_
          refine wpAnyH_ready (rs := [38]) (by kernel_rfl) (by simp) (AllReadyH.cons rfl (fun K hK => ?hc49r8n2q39) AllReadyH.nil)
          first | rw [if_neg (ne_true_of_eq_false (by kernel_rfl))] | rw [if_neg (by decide)]
          refine hK.out _ _ ?hs49r8n2q39 (fun hHeld49r8n2q39 => ?ht49r8n2q39)
          case hs49r8n2q39 => ((try dsimp only); (exact hHeld))
          clear hHeld hK
          have hHeld := hHeld49r8n2q39
          clear hHeld49r8n2q39
          refine wpAnyH_take (i := 39) (v := undef) rfl (by kernel_rfl) (by kernel_rfl) (by kernel_rfl) (fun _ _ _ h => h) (Or.inr ⟨by kernel_rfl, rfl⟩) (by assumption) ?_
          refine wpAnyH_take (i := 40) (v := ?v49r8n2q41) rfl (by kernel_rfl) (by kernel_rfl) (by kernel_rfl) (fun _ _ _ h => h) (Or.inl ⟨by kernel_rfl, ?hy49r8n2q41⟩) (by assumption) ?hr49r8n2q41
          case hy49r8n2q41 => (intro w hSw; (try dsimp only at hSw); (obtain ⟨c0, c1, c2⟩ := HCV.out w hSw); first | (go_simp; done) | (go_simp; with_reducible rfl))
          refine wpAnyH_done (by kernel_rfl) ?_ _
          clear hHeld
          refine NoPanic.normal ?_
          (try dsimp only [Exit.inBlock, Exit.then])
          exact hMK _ _ ⟨by kernel_rfl, by kernel_rfl, by kernel_rfl, by kernel_rfl, by kernel_rfl, by kernel_rfl, (Eq.trans (by kernel_rfl) (congrArg Value.bool hbad.symm)), (Below.refl _ _).drew⟩
        have g1 : ¬ zn > 4096 := p3
        by_cases p4 : 8000 < 48 * zp + zl
        · have hbad := HBAD.out.1 (.inr (.inr (.inr (.inl p4))))
          have g2 : 48 * zp + zl > 8000 := p4
          clear p1 p2
          refine wp_region_noPanic (wp_region_held_drew (S := (fun Y => Below V.heap.size V Y)) (by kernel_rfl) ?hS49r8n3 (fun hHeld => ?hR49r8n3))
          case hS49r8n3 => ((try dsimp only); (exact (Below.refl _ _).drew))
          refine wpAnyH_take (i := 0) (v := ?v49r8n3q1) rfl (by kernel_rfl) (by kernel_rfl) (by kernel_rfl) (fun _ _ _ h => h) (Or.inl ⟨by kernel_rfl, ?hy49r8n3q1⟩) (by assumption) ?hr49r8n3q1
          case hy49r8n3q1 => (intro w hSw; (try dsimp only at hSw); (obtain ⟨c0, c1, c2⟩ := HCV.out w hSw); first | (go_simp; done) | (go_simp; with_reducible rfl))
          refine wpAnyH_take (i := 1) (v := ?v49r8n3q2) rfl (by kernel_rfl) (by kernel_rfl) (by kernel_rfl) (fun _ _ _ h => h) (Or.inl ⟨by kernel_rfl, ?hy49r8n3q2⟩) (by assumption) ?hr49r8n3q2
          case hy49r8n3q2 => (intro w hSw; (try dsimp only at hSw); (obtain ⟨c0, c1, c2⟩ := HCV.out w hSw); first | (go_simp; done) | (go_simp; with_reducible rfl))
          refine wpAnyH_ready (rs := [2]) (by kernel_rfl) (by simp) (AllReadyH.cons rfl (fun K hK => ?hc49r8n3q3) AllReadyH.nil)
          go_simp
          (go_at_call 77; refine (hE1.out _ hHeld).mono ?_; rintro e w33 ⟨rfl, rfl⟩; (try dsimp only))
          refine hK.out _ _ ?hs49r8n3q3 (fun hHeld49r8n3q3 => ?ht49r8n3q3)
          case hs49r8n3q3 => ((try dsimp only); (exact hHeld))
          clear hHeld hK
          have hHeld := hHeld49r8n3q3
          clear hHeld49r8n3q3
          refine wpAnyH_take (i := 3) (v := ?v49r8n3q4) rfl (by kernel_rfl) (by kernel_rfl) (by kernel_rfl) (fun _ _ _ h => h) (Or.inl ⟨by kernel_rfl, ?hy49r8n3q4⟩) (by assumption) ?hr49r8n3q4
          case hy49r8n3q4 => (intro w hSw; (try dsimp only at hSw); (obtain ⟨c0, c1, c2⟩ := HCV.out w hSw); first | (go_simp; done) | (go_simp; with_reducible rfl))
          refine wpAnyH_take (i := 4) (v := ?v49r8n3q5) rfl (by kernel_rfl) (by kernel_rfl) (by kernel_rfl) (fun _ _ _ h => h) (Or.inl ⟨by kernel_rfl, ?hy49r8n3q5⟩) (by assumption) ?hr49r8n3q5
          case hy49r8n3q5 => (intro w hSw; (try dsimp only at hSw); (obtain ⟨c0, c1, c2⟩ := HCV.out w hSw); first | (go_simp; done) | (go_simp; with_reducible rfl))
          refine wpAnyH_take (i := 5) (v := ?v49r8n3q6) rfl (by kernel_rfl) (by kernel_rfl) (by kernel_rfl) (fun _ _ _ h => h) (Or.inl ⟨by kernel_rfl, ?hy49r8n3q6⟩) (by assumption) ?hr49r8n3q6
          case hy49r8n3q6 => (intro w hSw; (try dsimp only at hSw); (obtain ⟨c0, c1, c2⟩ := HCV.out w hSw); first | (go_simp; done) | (go_simp; with_reducible rfl))
          refine wpAnyH_take (i := 6) (v := ?v49r8n3q7) rfl (by kernel_rfl) (by kernel_rfl) (by kernel_rfl) (fun _ _ _ h => h) (Or.inl ⟨by kernel_rfl, ?hy49r8n3q7⟩) (by assumption) ?hr49r8n3q7
          case hy49r8n3q7 => (intro w hSw; (try dsimp only at hSw); (obtain ⟨c0, c1, c2⟩ := HCV.out w hSw); first | (go_simp; done) | (go_simp; with_reducible rfl))
          refine wpAnyH_take (i := 7) (v := ?v49r8n3q8) rfl (by kernel_rfl) (by kernel_rfl) (by kernel_rfl) (fun _ _ _ h => h) (Or.inl ⟨by kernel_rfl, ?hy49r8n3q8⟩) (by assumption) ?hr49r8n3q8
          case hy49r8n3q8 => (intro w hSw; (try dsimp only at hSw); (obtain ⟨c0, c1, c2⟩ := HCV.out w hSw); first | (go_simp; done) | (go_simp; with_reducible rfl))
          refine wpAnyH_take (i := 8) (v := ?v49r8n3q9) rfl (by kernel_rfl) (by kernel_rfl) (by kernel_rfl) (fun _ _ _ h => h) (Or.inl ⟨by kernel_rfl, ?hy49r8n3q9⟩) (by assumption) ?hr49r8n3q9
          case hy49r8n3q9 => (intro w hSw; (try dsimp only at hSw); (obtain ⟨c0, c1, c2⟩ := HCV.out w hSw); first | (go_simp; done) | (go_simp; with_reducible rfl))
          refine wpAnyH_take (i := 9) (v := ?v49r8n3q10) rfl (by kernel_rfl) (by kernel_rfl) (by kernel_rfl) (fun _ _ _ h => h) (Or.inl ⟨by kernel_rfl, ?hy49r8n3q10⟩) (by assumption) ?hr49r8n3q10
          case hy49r8n3q10 => (intro w hSw; (try dsimp only at hSw); (obtain ⟨c0, c1, c2⟩ := HCV.out w hSw); first | (go_simp; done) | (go_simp; with_reducible rfl))
          refine wpAnyH_take (i := 10) (v := ?v49r8n3q11) rfl (by kernel_rfl) (by kernel_rfl) (by kernel_rfl) (fun _ _ _ h => h) (Or.inl ⟨by kernel_rfl, ?hy49r8n3q11⟩) (by assumption) ?hr49r8n3q11
          case hy49r8n3q11 => (intro w hSw; (try dsimp only at hSw); (obtain ⟨c0, c1, c2⟩ := HCV.out w hSw); first | (go_simp; done) | (go_simp; with_reducible rfl))
          refine wpAnyH_take (i := 11) (v := ?v49r8n3q12) rfl (by kernel_rfl) (by kernel_rfl) (by kernel_rfl) (fun _ _ _ h => h) (Or.inl ⟨by kernel_rfl, ?hy49r8n3q12⟩) (by assumption) ?hr49r8n3q12
          case hy49r8n3q12 => (intro w hSw; (try dsimp only at hSw); (obtain ⟨c0, c1, c2⟩ := HCV.out w hSw); first | (go_simp; done) | (go_simp; with_reducible rfl))
          refine wpAnyH_take (i := 12) (v := ?v49r8n3q13) rfl (by kernel_rfl) (by kernel_rfl) (by kernel_rfl) (fun _ _ _ h => h) (Or.inl ⟨by kernel_rfl, ?hy49r8n3q13⟩) (by assumption) ?hr49r8n3q13
          case hy49r8n3q13 => (intro w hSw; (try dsimp only at hSw); (obtain ⟨c0, c1, c2⟩ := HCV.out w hSw); first | (go_simp; done) | (go_simp; with_reducible rfl))
          refine wpAnyH_take (i := 13) (v := ?v49r8n3q14) rfl (by kernel_rfl) (by kernel_rfl) (by kernel_rfl) (fun _ _ _ h => h) (Or.inl ⟨by kernel_rfl, ?hy49r8n3q14⟩) (by assumption) ?hr49r8n3q14
          case hy49r8n3q14 => (intro w hSw; (try dsimp only at hSw); (obtain ⟨c0, c1, c2⟩ := HCV.out w hSw); first | (go_simp; done) | (go_simp; with_reducible rfl))
          refine wpAnyH_take (i := 14) (v := ?v49r8n3q15) rfl (by kernel_rfl) (by kernel_rfl) (by kernel_rfl) (fun _ _ _ h => h) (Or.inl ⟨by kernel_rfl, ?hy49r8n3q15⟩) (by assumption) ?hr49r8n3q15
          case hy49r8n3q15 => (intro w hSw; (try dsimp only at hSw); (obtain ⟨c0, c1, c2⟩ := HCV.out w hSw); first | (go_simp; done) | (go_simp; with_reducible rfl))
          refine wpAnyH_take (i := 15) (v := ?v49r8n3q16) rfl (by kernel_rfl) (by kernel_rfl) (by kernel_rfl) (fun _ _ _ h => h) (Or.inl ⟨by kernel_rfl, ?hy49r8n3q16⟩) (by assumption) ?hr49r8n3q16
          case hy49r8n3q16 => (intro w hSw; (try dsimp only at hSw); (obtain ⟨c0, c1, c2⟩ := HCV.out w hSw); first | (go_simp; done) | (go_simp; with_reducible rfl))
          refine wpAnyH_take (i := 16) (v := ?v49r8n3q17) rfl (by kernel_rfl) (by kernel_rfl) (by kernel_rfl) (fun _ _ _ h => h) (Or.inl ⟨by kernel_rfl, ?hy49r8n3q17⟩) (by assumption) ?hr49r8n3q17
          case hy49r8n3q17 => (intro w hSw; (try dsimp only at hSw); (obtain ⟨c0, c1, c2⟩ := HCV.out w hSw); first | (go_simp; done) | (go_simp; with_reducible rfl))
          refine wpAnyH_take (i := 17) (v := ?v49r8n3q18) rfl (by kernel_rfl) (by kernel_rfl) (by kernel_rfl) (fun _ _ _ h => h) (Or.inl ⟨by kernel_rfl, ?hy49r8n3q18⟩) (by assumption) ?hr49r8n3q18
          case hy49r8n3q18 => (intro w hSw; (try dsimp only at hSw); (obtain ⟨c0, c1, c2⟩ := HCV.out w hSw); first | (go_simp; done) | (go_simp; with_reducible rfl))
          refine wpAnyH_take (i := 18) (v := ?v49r8n3q19) rfl (by kernel_rfl) (by kernel_rfl) (by kernel_rfl) (fun _ _ _ h => h) (Or.inl ⟨by kernel_rfl, ?hy49r8n3q19⟩) (by assumption) ?hr49r8n3q19
          case hy49r8n3q19 => (intro w hSw; (try dsimp only at hSw); (obtain ⟨c0, c1, c2⟩ := HCV.out w hSw); first | (go_simp; done) | (go_simp; with_reducible rfl))
          refine wpAnyH_take (i := 19) (v := ?v49r8n3q20) rfl (by kernel_rfl) (by kernel_rfl) (by kernel_rfl) (fun _ _ _ h => h) (Or.inl ⟨by kernel_rfl, ?hy49r8n3q20⟩) (by assumption) ?hr49r8n3q20
          case hy49r8n3q20 => (intro w hSw; (try dsimp only at hSw); (obtain ⟨c0, c1, c2⟩ := HCV.out w hSw); first | (go_simp; done) | (go_simp; with_reducible rfl))
          refine wpAnyH_take (i := 20) (v := ?v49r8n3q21) rfl (by kernel_rfl) (by kernel_rfl) (by kernel_rfl) (fun _ _ _ h => h) (Or.inl ⟨by kernel_rfl, ?hy49r8n3q21⟩) (by assumption) ?hr49r8n3q21
          case hy49r8n3q21 => (intro w hSw; (try dsimp only at hSw); (obtain ⟨c0, c1, c2⟩ := HCV.out w hSw); first | (go_simp; done) | (go_simp; with_reducible rfl))
          refine wpAnyH_take (i := 21) (v := ?v49r8n3q22) rfl (by kernel_rfl) (by kernel_rfl) (by kernel_rfl) (fun _ _ _ h => h) (Or.inl ⟨by kernel_rfl, ?hy49r8n3q22⟩) (by assumption) ?hr49r8n3q22
          case hy49r8n3q22 => (intro w hSw; (try dsimp only at hSw); (obtain ⟨c0, c1, c2⟩ := HCV.out w hSw); first | (go_simp; done) | (go_simp; with_reducible rfl))
          refine wpAnyH_take (i := 22) (v := ?v49r8n3q23) rfl (by kernel_rfl) (by kernel_rfl) (by kernel_rfl) (fun _ _ _ h => h) (Or.inl ⟨by kernel_rfl, ?hy49r8n3q23⟩) (by assumption) ?hr49r8n3q23
          case hy49r8n3q23 => (intro w hSw; (try dsimp only at hSw); (obtain ⟨c0, c1, c2⟩ := HCV.out w hSw); first | (go_simp; done) | (go_simp; with_reducible rfl))
          refine wpAnyH_take (i := 23) (v := ?v49r8n3q24) rfl (by kernel_rfl) (by kernel_rfl) (by kernel_rfl) (fun _ _ _ h => h) (Or.inl ⟨by kernel_rfl, ?hy49r8n3q24⟩) (by assumption) ?hr49r8n3q24
          case hy49r8n3q24 => (intro w hSw; (try dsimp only at hSw); (obtain ⟨c0, c1, c2⟩ := HCV.out w hSw); first | (go_simp; done) | (go_simp; with_reducible rfl))
          refine wpAnyH_take (i := 24) (v := undef) rfl (by kernel_rfl) (by kernel_rfl) (by kernel_rfl) (fun _ _ _ h => h) (Or.inr ⟨by kernel_rfl, rfl⟩) (by assumption) ?_
          refine wpAnyH_take (i := 25) (v := undef) rfl (by kernel_rfl) (by kernel_rfl) (by kernel_rfl) (fun _ _ _ h => h) (Or.inr ⟨by kernel_rfl, rfl⟩) (by assumption) ?_
          refine wpAnyH_take (i := 26) (v := undef) rfl (by kernel_rfl) (by kernel_rfl) (by kernel_rfl) (fun _ _ _ h => h) (Or.inr ⟨by kernel_rfl, rfl⟩) (by assumption) ?_
          refine wpAnyH_take (i := 27) (v := undef) rfl (by kernel_rfl) (by kernel_rfl) (by kernel_rfl) (fun _ _ _ h => h) (Or.inr ⟨by kernel_rfl, rfl⟩) (by assumption) ?_
          refine wpAnyH_take (i := 28) (v := undef) rfl (by kernel_rfl) (by kernel_rfl) (by kernel_rfl) (fun _ _ _ h => h) (Or.inr ⟨by kernel_rfl, rfl⟩) (by assumption) ?_
          refine wpAnyH_take (i := 29) (v := undef) rfl (by kernel_rfl) (by kernel_rfl) (by kernel_rfl) (fun _ _ _ h => h) (Or.inr ⟨by kernel_rfl, rfl⟩) (by assumption) ?_
          refine wpAnyH_take (i := 30) (v := undef) rfl (by kernel_rfl) (by kernel_rfl) (by kernel_rfl) (fun _ _ _ h => h) (Or.inr ⟨by kernel_rfl, rfl⟩) (by assumption) ?_
          refine wpAnyH_take (i := 31) (v := undef) rfl (by kernel_rfl) (by kernel_rfl) (by kernel_rfl) (fun _ _ _ h => h) (Or.inr ⟨by kernel_rfl, rfl⟩) (by assumption) ?_
          refine wpAnyH_take (i := 32) (v := ?v49r8n3q33) rfl (by kernel_rfl) (by kernel_rfl) (by kernel_rfl) (fun _ _ _ h => h) (Or.inl ⟨by kernel_rfl, ?hy49r8n3q33⟩) (by assumption) ?hr49r8n3q33
          case hy49r8n3q33 => (intro w hSw; (try dsimp only at hSw); (obtain ⟨c0, c1, c2⟩ := HCV.out w hSw); first | (go_simp; done) | (go_simp; with_reducible rfl))
          refine wpAnyH_take (i := 33) (v := ?v49r8n3q34) rfl (by kernel_rfl) (by kernel_rfl) (by kernel_rfl) (fun _ _ _ h => h) (Or.inl ⟨by kernel_rfl, ?hy49r8n3q34⟩) (by assumption) ?hr49r8n3q34
          case hy49r8n3q34 => (intro w hSw; (try dsimp only at hSw); (obtain ⟨c0, c1, c2⟩ := HCV.out w hSw); first | (go_simp; done) | (go_simp; with_reducible rfl))
          refine wpAnyH_take (i := 34) (v := undef) rfl (by kernel_rfl) (by kernel_rfl) (by kernel_rfl) (fun _ _ _ h => h) (Or.inr ⟨by kernel_rfl, rfl⟩) (by assumption) ?_
          refine wpAnyH_take (i := 35) (v := undef) rfl (by kernel_rfl) (by kernel_rfl) (by kernel_rfl) (fun _ _ _ h => h) (Or.inr ⟨by kernel_rfl, rfl⟩) (by assumption) ?_
          refine wpAnyH_take (i := 36) (v := undef) rfl (by kernel_rfl) (by kernel_rfl) (by kernel_rfl) (fun _ _ _ h => h) (Or.inr ⟨by kernel_rfl, rfl⟩) (by assumption) ?_
          refine wpAnyH_take (i := 37) (v := undef) rfl (by kernel_rfl) (by kernel_rfl) (by kernel_rfl) (fun _ _ _ h => h) (Or.inr ⟨by kernel_rfl, rfl⟩) (by assumption) ?_
          refine wpAnyH_ready (rs := [38]) (by kernel_rfl) (by simp) (AllReadyH.cons rfl (fun K hK => ?hc49r8n3q39) AllReadyH.nil)
          first | rw [if_neg (ne_true_of_eq_false (by kernel_rfl))] | rw [if_neg (by decide)]
          refine hK.out _ _ ?hs49r8n3q39 (fun hHeld49r8n3q39 => ?ht49r8n3q39)
          case hs49r8n3q39 => ((try dsimp only); (exact hHeld))
          clear hHeld hK
          have hHeld := hHeld49r8n3q39
          clear hHeld49r8n3q39
          refine wpAnyH_take (i := 39) (v := undef) rfl (by kernel_rfl) (by kernel_rfl) (by kernel_rfl) (fun _ _ _ h => h) (Or.inr ⟨by kernel_rfl, rfl⟩) (by assumption) ?_
          refine wpAnyH_take (i := 40) (v := ?v49r8n3q41) rfl (by kernel_rfl) (by kernel_rfl) (by kernel_rfl) (fun _ _ _ h => h) (Or.inl ⟨by kernel_rfl, ?hy49r8n3q41⟩) (by assumption) ?hr49r8n3q41
          case hy49r8n3q41 => (intro w hSw; (try dsimp only at hSw); (obtain ⟨c0, c1, c2⟩ := HCV.out w hSw); first | (go_simp; done) | (go_simp; with_reducible rfl))
          refine wpAnyH_done (by kernel_rfl) ?_ _
          clear hHeld
          refine NoPanic.normal ?_
          (try dsimp only [Exit.inBlock, Exit.then])
          exact hMK _ _ ⟨by kernel_rfl, by kernel_rfl, by kernel_rfl, by kernel_rfl, by kernel_rfl, by kernel_rfl, (Eq.trans (by kernel_rfl) (congrArg Value.bool hbad.symm)), (Below.refl _ _).drew⟩
        have g2 : ¬ 48 * zp + zl > 8000 := p4
        by_cases p5 : zl = 0
        · have g3 : (zl == 0) = true := by simp [p5]
          by_cases p6 : 0 < zp
          · have hbad := HBAD.out.1 (.inr (.inr (.inr (.inr ⟨p5, p6⟩))))
            have g4 : zp > 0 := p6
            clear p1 p2 p5
            refine wp_region_noPanic (wp_region_held_drew (S := (fun Y => Below V.heap.size V Y)) (by kernel_rfl) ?hS49r8n4 (fun hHeld => ?hR49r8n4))
            case hS49r8n4 => ((try dsimp only); (exact (Below.refl _ _).drew))
            refine wpAnyH_take (i := 0) (v := ?v49r8n4q1) rfl (by kernel_rfl) (by kernel_rfl) (by kernel_rfl) (fun _ _ _ h => h) (Or.inl ⟨by kernel_rfl, ?hy49r8n4q1⟩) (by assumption) ?hr49r8n4q1
            case hy49r8n4q1 => (intro w hSw; (try dsimp only at hSw); (obtain ⟨c0, c1, c2⟩ := HCV.out w hSw); first | (go_simp; done) | (go_simp; with_reducible rfl))
            refine wpAnyH_take (i := 1) (v := ?v49r8n4q2) rfl (by kernel_rfl) (by kernel_rfl) (by kernel_rfl) (fun _ _ _ h => h) (Or.inl ⟨by kernel_rfl, ?hy49r8n4q2⟩) (by assumption) ?hr49r8n4q2
            case hy49r8n4q2 => (intro w hSw; (try dsimp only at hSw); (obtain ⟨c0, c1, c2⟩ := HCV.out w hSw); first | (go_simp; done) | (go_simp; with_reducible rfl))
            refine wpAnyH_ready (rs := [2]) (by kernel_rfl) (by simp) (AllReadyH.cons rfl (fun K hK => ?hc49r8n4q3) AllReadyH.nil)
            go_simp
            (go_at_call 77; refine (hE1.out _ hHeld).mono ?_; rintro e w33 ⟨rfl, rfl⟩; (try dsimp only))
            refine hK.out _ _ ?hs49r8n4q3 (fun hHeld49r8n4q3 => ?ht49r8n4q3)
            case hs49r8n4q3 => ((try dsimp only); (exact hHeld))
            clear hHeld hK
            have hHeld := hHeld49r8n4q3
            clear hHeld49r8n4q3
            refine wpAnyH_take (i := 3) (v := ?v49r8n4q4) rfl (by kernel_rfl) (by kernel_rfl) (by kernel_rfl) (fun _ _ _ h => h) (Or.inl ⟨by kernel_rfl, ?hy49r8n4q4⟩) (by assumption) ?hr49r8n4q4
            case hy49r8n4q4 => (intro w hSw; (try dsimp only at hSw); (obtain ⟨c0, c1, c2⟩ := HCV.out w hSw); first | (go_simp; done) | (go_simp; with_reducible rfl))
            refine wpAnyH_take (i := 4) (v := ?v49r8n4q5) rfl (by kernel_rfl) (by kernel_rfl) (by kernel_rfl) (fun _ _ _ h => h) (Or.inl ⟨by kernel_rfl, ?hy49r8n4q5⟩) (by assumption) ?hr49r8n4q5
            case hy49r8n4q5 => (intro w hSw; (try dsimp only at hSw); (obtain ⟨c0, c1, c2⟩ := HCV.out w hSw); first | (go_simp; done) | (go_simp; with_reducible rfl))
            refine wpAnyH_take (i := 5) (v := ?v49r8n4q6) rfl (by kernel_rfl) (by kernel_rfl) (by kernel_rfl) (fun _ _ _ h => h) (Or.inl ⟨by kernel_rfl, ?hy49r8n4q6⟩) (by assumption) ?hr49r8n4q6
            case hy49r8n4q6 => (intro w hSw; (try dsimp only at hSw); (obtain ⟨c0, c1, c2⟩ := HCV.out w hSw); first | (go_simp; done) | (go_simp; with_reducible rfl))
            refine wpAnyH_take (i := 6) (v := ?v49r8n4q7) rfl (by kernel_rfl) (by kernel_rfl) (by kernel_rfl) (fun _ _ _ h => h) (Or.inl ⟨by kernel_rfl, ?hy49r8n4q7⟩) (by assumption) ?hr49r8n4q7
            case hy49r8n4q7 => (intro w hSw; (try dsimp only at hSw); (obtain ⟨c0, c1, c2⟩ := HCV.out w hSw); first | (go_simp; done) | (go_simp; with_reducible rfl))
            refine wpAnyH_take (i := 7) (v := ?v49r8n4q8) rfl (by kernel_rfl) (by kernel_rfl) (by kernel_rfl) (fun _ _ _ h => h) (Or.inl ⟨by kernel_rfl, ?hy49r8n4q8⟩) (by assumption) ?hr49r8n4q8
            case hy49r8n4q8 => (intro w hSw; (try dsimp only at hSw); (obtain ⟨c0, c1, c2⟩ := HCV.out w hSw); first | (go_simp; done) | (go_simp; with_reducible rfl))
            refine wpAnyH_take (i := 8) (v := ?v49r8n4q9) rfl (by kernel_rfl) (by kernel_rfl) (by kernel_rfl) (fun _ _ _ h => h) (Or.inl ⟨by kernel_rfl, ?hy49r8n4q9⟩) (by assumption) ?hr49r8n4q9
            case hy49r8n4q9 => (intro w hSw; (try dsimp only at hSw); (obtain ⟨c0, c1, c2⟩ := HCV.out w hSw); first | (go_simp; done) | (go_simp; with_reducible rfl))
            refine wpAnyH_take (i := 9) (v := ?v49r8n4q10) rfl (by kernel_rfl) (by kernel_rfl) (by kernel_rfl) (fun _ _ _ h => h) (Or.inl ⟨by kernel_rfl, ?hy49r8n4q10⟩) (by assumption) ?hr49r8n4q10
            case hy49r8n4q10 => (intro w hSw; (try dsimp only at hSw); (obtain ⟨c0, c1, c2⟩ := HCV.out w hSw); first | (go_simp; done) | (go_simp; with_reducible rfl))
            refine wpAnyH_take (i := 10) (v := ?v49r8n4q11) rfl (by kernel_rfl) (by kernel_rfl) (by kernel_rfl) (fun _ _ _ h => h) (Or.inl ⟨by kernel_rfl, ?hy49r8n4q11⟩) (by assumption) ?hr49r8n4q11
            case hy49r8n4q11 => (intro w hSw; (try dsimp only at hSw); (obtain ⟨c0, c1, c2⟩ := HCV.out w hSw); first | (go_simp; done) | (go_simp; with_reducible rfl))
            refine wpAnyH_take (i := 11) (v := ?v49r8n4q12) rfl (by kernel_rfl) (by kernel_rfl) (by kernel_rfl) (fun _ _ _ h => h) (Or.inl ⟨by kernel_rfl, ?hy49r8n4q12⟩) (by assumption) ?hr49r8n4q12
            case hy49r8n4q12 => (intro w hSw; (try dsimp only at hSw); (obtain ⟨c0, c1, c2⟩ := HCV.out w hSw); first | (go_simp; done) | (go_simp; with_reducible rfl))
            refine wpAnyH_take (i := 12) (v := ?v49r8n4q13) rfl (by kernel_rfl) (by kernel_rfl) (by kernel_rfl) (fun _ _ _ h => h) (Or.inl ⟨by kernel_rfl, ?hy49r8n4q13⟩) (by assumption) ?hr49r8n4q13
            case hy49r8n4q13 => (intro w hSw; (try dsimp only at hSw); (obtain ⟨c0, c1, c2⟩ := HCV.out w hSw); first | (go_simp; done) | (go_simp; with_reducible rfl))
            refine wpAnyH_take (i := 13) (v := ?v49r8n4q14) rfl (by kernel_rfl) (by kernel_rfl) (by kernel_rfl) (fun _ _ _ h => h) (Or.inl ⟨by kernel_rfl, ?hy49r8n4q14⟩) (by assumption) ?hr49r8n4q14
            case hy49r8n4q14 => (intro w hSw; (try dsimp only at hSw); (obtain ⟨c0, c1, c2⟩ := HCV.out w hSw); first | (go_simp; done) | (go_simp; with_reducible rfl))
            refine wpAnyH_take (i := 14) (v := ?v49r8n4q15) rfl (by kernel_rfl) (by kernel_rfl) (by kernel_rfl) (fun _ _ _ h => h) (Or.inl ⟨by kernel_rfl, ?hy49r8n4q15⟩) (by assumption) ?hr49r8n4q15
            case hy49r8n4q15 => (intro w hSw; (try dsimp only at hSw); (obtain ⟨c0, c1, c2⟩ := HCV.out w hSw); first | (go_simp; done) | (go_simp; with_reducible rfl))
            refine wpAnyH_take (i := 15) (v := ?v49r8n4q16) rfl (by kernel_rfl) (by kernel_rfl) (by kernel_rfl) (fun _ _ _ h => h) (Or.inl ⟨by kernel_rfl, ?hy49r8n4q16⟩) (by assumption) ?hr49r8n4q16
            case hy49r8n4q16 => (intro w hSw; (try dsimp only at hSw); (obtain ⟨c0, c1, c2⟩ := HCV.out w hSw); first | (go_simp; done) | (go_simp; with_reducible rfl))
            refine wpAnyH_take (i := 16) (v := ?v49r8n4q17) rfl (by kernel_rfl) (by kernel_rfl) (by kernel_rfl) (fun _ _ _ h => h) (Or.inl ⟨by kernel_rfl, ?hy49r8n4q17⟩) (by assumption) ?hr49r8n4q17
            case hy49r8n4q17 => (intro w hSw; (try dsimp only at hSw); (obtain ⟨c0, c1, c2⟩ := HCV.out w hSw); first | (go_simp; done) | (go_simp; with_reducible rfl))
            refine wpAnyH_take (i := 17) (v := ?v49r8n4q18) rfl (by kernel_rfl) (by kernel_rfl) (by kernel_rfl) (fun _ _ _ h => h) (Or.inl ⟨by kernel_rfl, ?hy49r8n4q18⟩) (by assumption) ?hr49r8n4q18
            case hy49r8n4q18 => (intro w hSw; (try dsimp only at hSw); (obtain ⟨c0, c1, c2⟩ := HCV.out w hSw); first | (go_simp; done) | (go_simp; with_reducible rfl))
            refine wpAnyH_take (i := 18) (v := ?v49r8n4q19) rfl (by kernel_rfl) (by kernel_rfl) (by kernel_rfl) (fun _ _ _ h => h) (Or.inl ⟨by kernel_rfl, ?hy49r8n4q19⟩) (by assumption) ?hr49r8n4q19
            case hy49r8n4q19 => (intro w hSw; (try dsimp only at hSw); (obtain ⟨c0, c1, c2⟩ := HCV.out w hSw); first | (go_simp; done) | (go_simp; with_reducible rfl))
            refine wpAnyH_take (i := 19) (v := ?v49r8n4q20) rfl (by kernel_rfl) (by kernel_rfl) (by kernel_rfl) (fun _ _ _ h => h) (Or.inl ⟨by kernel_rfl, ?hy49r8n4q20⟩) (by assumption) ?hr49r8n4q20
            case hy49r8n4q20 => (intro w hSw; (try dsimp only at hSw); (obtain ⟨c0, c1, c2⟩ := HCV.out w hSw); first | (go_simp; done) | (go_simp; with_reducible rfl))
            refine wpAnyH_take (i := 20) (v := ?v49r8n4q21) rfl (by kernel_rfl) (by kernel_rfl) (by kernel_rfl) (fun _ _ _ h => h) (Or.inl ⟨by kernel_rfl, ?hy49r8n4q21⟩) (by assumption) ?hr49r8n4q21
            case hy49r8n4q21 => (intro w hSw; (try dsimp only at hSw); (obtain ⟨c0, c1, c2⟩ := HCV.out w hSw); first | (go_simp; done) | (go_simp; with_reducible rfl))
            refine wpAnyH_take (i := 21) (v := ?v49r8n4q22) rfl (by kernel_rfl) (by kernel_rfl) (by kernel_rfl) (fun _ _ _ h => h) (Or.inl ⟨by kernel_rfl, ?hy49r8n4q22⟩) (by assumption) ?hr49r8n4q22
            case hy49r8n4q22 => (intro w hSw; (try dsimp only at hSw); (obtain ⟨c0, c1, c2⟩ := HCV.out w hSw); first | (go_simp; done) | (go_simp; with_reducible rfl))
            refine wpAnyH_take (i := 22) (v := ?v49r8n4q23) rfl (by kernel_rfl) (by kernel_rfl) (by kernel_rfl) (fun _ _ _ h => h) (Or.inl ⟨by kernel_rfl, ?hy49r8n4q23⟩) (by assumption) ?hr49r8n4q23
            case hy49r8n4q23 => (intro w hSw; (try dsimp only at hSw); (obtain ⟨c0, c1, c2⟩ := HCV.out w hSw); first | (go_simp; done) | (go_simp; with_reducible rfl))
            refine wpAnyH_take (i := 23) (v := ?v49r8n4q24) rfl (by kernel_rfl) (by kernel_rfl) (by kernel_rfl) (fun _ _ _ h => h) (Or.inl ⟨by kernel_rfl, ?hy49r8n4q24⟩) (by assumption) ?hr49r8n4q24
            case hy49r8n4q24 => (intro w hSw; (try dsimp only at hSw); (obtain ⟨c0, c1, c2⟩ := HCV.out w hSw); first | (go_simp; done) | (go_simp; with_reducible rfl))
            refine wpAnyH_take (i := 24) (v := ?v49r8n4q25) rfl (by kernel_rfl) (by kernel_rfl) (by kernel_rfl) (fun _ _ _ h => h) (Or.inl ⟨by kernel_rfl, ?hy49r8n4q25⟩) (by assumption) ?hr49r8n4q25
            case hy49r8n4q25 => (intro w hSw; (try dsimp only at hSw); (obtain ⟨c0, c1, c2⟩ := HCV.out w hSw); first | (go_simp; done) | (go_simp; with_reducible rfl))
            refine wpAnyH_take (i := 25) (v := ?v49r8n4q26) rfl (by kernel_rfl) (by kernel_rfl) (by kernel_rfl) (fun _ _ _ h => h) (Or.inl ⟨by kernel_rfl, ?hy49r8n4q26⟩) (by assumption) ?hr49r8n4q26
            case hy49r8n4q26 => (intro w hSw; (try dsimp only at hSw); (obtain ⟨c0, c1, c2⟩ := HCV.out w hSw); first | (go_simp; done) | (go_simp; with_reducible rfl))
            refine wpAnyH_take (i := 26) (v := ?v49r8n4q27) rfl (by kernel_rfl) (by kernel_rfl) (by kernel_rfl) (fun _ _ _ h => h) (Or.inl ⟨by kernel_rfl, ?hy49r8n4q27⟩) (by assumption) ?hr49r8n4q27
            case hy49r8n4q27 => (intro w hSw; (try dsimp only at hSw); (obtain ⟨c0, c1, c2⟩ := HCV.out w hSw); first | (go_simp; done) | (go_simp; with_reducible rfl))
            refine wpAnyH_take (i := 27) (v := ?v49r8n4q28) rfl (by kernel_rfl) (by kernel_rfl) (by kernel_rfl) (fun _ _ _ h => h) (Or.inl ⟨by kernel_rfl, ?hy49r8n4q28⟩) (by assumption) ?hr49r8n4q28
            case hy49r8n4q28 => (intro w hSw; (try dsimp only at hSw); (obtain ⟨c0, c1, c2⟩ := HCV.out w hSw); first | (go_simp; done) | (go_simp; with_reducible rfl))
            refine wpAnyH_take (i := 28) (v := ?v49r8n4q29) rfl (by kernel_rfl) (by kernel_rfl) (by kernel_rfl) (fun _ _ _ h => h) (Or.inl ⟨by kernel_rfl, ?hy49r8n4q29⟩) (by assumption) ?hr49r8n4q29
            case hy49r8n4q29 => (intro w hSw; (try dsimp only at hSw); (obtain ⟨c0, c1, c2⟩ := HCV.out w hSw); first | (go_simp; done) | (go_simp; with_reducible rfl))
            refine wpAnyH_take (i := 29) (v := ?v49r8n4q30) rfl (by kernel_rfl) (by kernel_rfl) (by kernel_rfl) (fun _ _ _ h => h) (Or.inl ⟨by kernel_rfl, ?hy49r8n4q30⟩) (by assumption) ?hr49r8n4q30
            case hy49r8n4q30 => (intro w hSw; (try dsimp only at hSw); (obtain ⟨c0, c1, c2⟩ := HCV.out w hSw); first | (go_simp; done) | (go_simp; with_reducible rfl))
            refine wpAnyH_take (i := 30) (v := ?v49r8n4q31) rfl (by kernel_rfl) (by kernel_rfl) (by kernel_rfl) (fun _ _ _ h => h) (Or.inl ⟨by kernel_rfl, ?hy49r8n4q31⟩) (by assumption) ?hr49r8n4q31
            case hy49r8n4q31 => (intro w hSw; (try dsimp only at hSw); (obtain ⟨c0, c1, c2⟩ := HCV.out w hSw); first | (go_simp; done) | (go_simp; with_reducible rfl))
            refine wpAnyH_take (i := 31) (v := ?v49r8n4q32) rfl (by kernel_rfl) (by kernel_rfl) (by kernel_rfl) (fun _ _ _ h => h) (Or.inl ⟨by kernel_rfl, ?hy49r8n4q32⟩) (by assumption) ?hr49r8n4q32
            case hy49r8n4q32 => (intro w hSw; (try dsimp only at hSw); (obtain ⟨c0, c1, c2⟩ := HCV.out w hSw); first | (go_simp; done) | (go_simp; with_reducible rfl))
            refine wpAnyH_take (i := 32) (v := ?v49r8n4q33) rfl (by kernel_rfl) (by kernel_rfl) (by kernel_rfl) (fun _ _ _ h => h) (Or.inl ⟨by kernel_rfl, ?hy49r8n4q33⟩) (by assumption) ?hr49r8n4q33
            case hy49r8n4q33 => (intro w hSw; (try dsimp only at hSw); (obtain ⟨c0, c1, c2⟩ := HCV.out w hSw); first | (go_simp; done) | (go_simp; with_reducible rfl))
            refine wpAnyH_take (i := 33) (v := ?v49r8n4q34) rfl (by kernel_rfl) (by kernel_rfl) (by kernel_rfl) (fun _ _ _ h => h) (Or.inl ⟨by kernel_rfl, ?hy49r8n4q34⟩) (by assumption) ?hr49r8n4q34
            case hy49r8n4q34 => (intro w hSw; (try dsimp only at hSw); (obtain ⟨c0, c1, c2⟩ := HCV.out w hSw); first | (go_simp; done) | (go_simp; with_reducible rfl))
            refine wpAnyH_take (i := 34) (v := undef) rfl (by kernel_rfl) (by kernel_rfl) (by kernel_rfl) (fun _ _ _ h => h) (Or.inr ⟨by kernel_rfl, rfl⟩) (by assumption) ?_
            refine wpAnyH_take (i := 35) (v := undef) rfl (by kernel_rfl) (by kernel_rfl) (by kernel_rfl) (fun _ _ _ h => h) (Or.inr ⟨by kernel_rfl, rfl⟩) (by assumption) ?_
            refine wpAnyH_take (i := 36) (v := undef) rfl (by kernel_rfl) (by kernel_rfl) (by kernel_rfl) (fun _ _ _ h => h) (Or.inr ⟨by kernel_rfl, rfl⟩) (by assumption) ?_
            refine wpAnyH_take (i := 37) (v := undef) rfl (by kernel_rfl) (by kernel_rfl) (by kernel_rfl) (fun _ _ _ h => h) (Or.inr ⟨by kernel_rfl, rfl⟩) (by assumption) ?_
            refine wpAnyH_ready (rs := [38]) (by kernel_rfl) (by simp) (AllReadyH.cons rfl (fun K hK => ?hc49r8n4q39) AllReadyH.nil)
            first | rw [if_neg (ne_true_of_eq_false (by kernel_rfl))] | rw [if_neg (by decide)]
            refine hK.out _ _ ?hs49r8n4q39 (fun hHeld49r8n4q39 => ?ht49r8n4q39)
            case hs49r8n4q39 => ((try dsimp only); (exact hHeld))
            clear hHeld hK
            have hHeld := hHeld49r8n4q39
            clear hHeld49r8n4q39
            refine wpAnyH_take (i := 39) (v := undef) rfl (by kernel_rfl) (by kernel_rfl) (by kernel_rfl) (fun _ _ _ h => h) (Or.inr ⟨by kernel_rfl, rfl⟩) (by assumption) ?_
            refine wpAnyH_take (i := 40) (v := ?v49r8n4q41) rfl (by kernel_rfl) (by kernel_rfl) (by kernel_rfl) (fun _ _ _ h => h) (Or.inl ⟨by kernel_rfl, ?hy49r8n4q41⟩) (by assumption) ?hr49r8n4q41
            case hy49r8n4q41 => (intro w hSw; (try dsimp only at hSw); (obtain ⟨c0, c1, c2⟩ := HCV.out w hSw); first | (go_simp; done) | (go_simp; with_reducible rfl))
            refine wpAnyH_done (by kernel_rfl) ?_ _
            clear hHeld
            refine NoPanic.normal ?_
            (try dsimp only [Exit.inBlock, Exit.then])
            exact hMK _ _ ⟨by kernel_rfl, by kernel_rfl, by kernel_rfl, by kernel_rfl, by kernel_rfl, by kernel_rfl, (Eq.trans (by kernel_rfl) (congrArg Value.bool hbad.symm)), (Below.refl _ _).drew⟩
          have g4 : ¬ zp > 0 := p6
          have hB := HBAD.out.2 p1 p2 p3 p4 (fun h => p6 h.2)
          clear p1 p2 p5
          refine wp_region_noPanic (wp_region_held_drew (S := (fun Y => Below V.heap.size V Y)) (by kernel_rfl) ?hS49r8n5 (fun hHeld => ?hR49r8n5))
          case hS49r8n5 => ((try dsimp only); (exact (Below.refl _ _).drew))
          refine wpAnyH_take (i := 0) (v := ?v49r8n5q1) rfl (by kernel_rfl) (by kernel_rfl) (by kernel_rfl) (fun _ _ _ h => h) (Or.inl ⟨by kernel_rfl, ?hy49r8n5q1⟩) (by assumption) ?hr49r8n5q1
          case hy49r8n5q1 => (intro w hSw; (try dsimp only at hSw); (obtain ⟨c0, c1, c2⟩ := HCV.out w hSw); first | (go_simp; done) | (go_simp; with_reducible rfl))
          refine wpAnyH_take (i := 1) (v := ?v49r8n5q2) rfl (by kernel_rfl) (by kernel_rfl) (by kernel_rfl) (fun _ _ _ h => h) (Or.inl ⟨by kernel_rfl, ?hy49r8n5q2⟩) (by assumption) ?hr49r8n5q2
          case hy49r8n5q2 => (intro w hSw; (try dsimp only at hSw); (obtain ⟨c0, c1, c2⟩ := HCV.out w hSw); first | (go_simp; done) | (go_simp; with_reducible rfl))
          refine wpAnyH_ready (rs := [2]) (by kernel_rfl) (by simp) (AllReadyH.cons rfl (fun K hK => ?hc49r8n5q3) AllReadyH.nil)
          go_simp
          (go_at_call 77; refine (hE1.out _ hHeld).mono ?_; rintro e w33 ⟨rfl, rfl⟩; (try dsimp only))
          refine hK.out _ _ ?hs49r8n5q3 (fun hHeld49r8n5q3 => ?ht49r8n5q3)
          case hs49r8n5q3 => ((try dsimp only); (exact hHeld))
          clear hHeld hK
          have hHeld := hHeld49r8n5q3
          clear hHeld49r8n5q3
          refine wpAnyH_take (i := 3) (v := ?v49r8n5q4) rfl (by kernel_rfl) (by kernel_rfl) (by kernel_rfl) (fun _ _ _ h => h) (Or.inl ⟨by kernel_rfl, ?hy49r8n5q4⟩) (by assumption) ?hr49r8n5q4
          case hy49r8n5q4 => (intro w hSw; (try dsimp only at hSw); (obtain ⟨c0, c1, c2⟩ := HCV.out w hSw); first | (go_simp; done) | (go_simp; with_reducible rfl))
          refine wpAnyH_take (i := 4) (v := ?v49r8n5q5) rfl (by kernel_rfl) (by kernel_rfl) (by kernel_rfl) (fun _ _ _ h => h) (Or.inl ⟨by kernel_rfl, ?hy49r8n5q5⟩) (by assumption) ?hr49r8n5q5
          case hy49r8n5q5 => (intro w hSw; (try dsimp only at hSw); (obtain ⟨c0, c1, c2⟩ := HCV.out w hSw); first | (go_simp; done) | (go_simp; with_reducible rfl))
          refine wpAnyH_take (i := 5) (v := ?v49r8n5q6) rfl (by kernel_rfl) (by kernel_rfl) (by kernel_rfl) (fun _ _ _ h => h) (Or.inl ⟨by kernel_rfl, ?hy49r8n5q6⟩) (by assumption) ?hr49r8n5q6
          case hy49r8n5q6 => (intro w hSw; (try dsimp only at hSw); (obtain ⟨c0, c1, c2⟩ := HCV.out w hSw); first | (go_simp; done) | (go_simp; with_reducible rfl))
          refine wpAnyH_take (i := 6) (v := ?v49r8n5q7) rfl (by kernel_rfl) (by kernel_rfl) (by kernel_rfl) (fun _ _ _ h => h) (Or.inl ⟨by kernel_rfl, ?hy49r8n5q7⟩) (by assumption) ?hr49r8n5q7
          case hy49r8n5q7 => (intro w hSw; (try dsimp only at hSw); (obtain ⟨c0, c1, c2⟩ := HCV.out w hSw); first | (go_simp; done) | (go_simp; with_reducible rfl))
          refine wpAnyH_take (i := 7) (v := ?v49r8n5q8) rfl (by kernel_rfl) (by kernel_rfl) (by kernel_rfl) (fun _ _ _ h => h) (Or.inl ⟨by kernel_rfl, ?hy49r8n5q8⟩) (by assumption) ?hr49r8n5q8
          case hy49r8n5q8 => (intro w hSw; (try dsimp only at hSw); (obtain ⟨c0, c1, c2⟩ := HCV.out w hSw); first | (go_simp; done) | (go_simp; with_reducible rfl))
          refine wpAnyH_take (i := 8) (v := ?v49r8n5q9) rfl (by kernel_rfl) (by kernel_rfl) (by kernel_rfl) (fun _ _ _ h => h) (Or.inl ⟨by kernel_rfl, ?hy49r8n5q9⟩) (by assumption) ?hr49r8n5q9
          case hy49r8n5q9 => (intro w hSw; (try dsimp only at hSw); (obtain ⟨c0, c1, c2⟩ := HCV.out w hSw); first | (go_simp; done) | (go_simp; with_reducible rfl))
          refine wpAnyH_take (i := 9) (v := ?v49r8n5q10) rfl (by kernel_rfl) (by kernel_rfl) (by kernel_rfl) (fun _ _ _ h => h) (Or.inl ⟨by kernel_rfl, ?hy49r8n5q10⟩) (by assumption) ?hr49r8n5q10
          case hy49r8n5q10 => (intro w hSw; (try dsimp only at hSw); (obtain ⟨c0, c1, c2⟩ := HCV.out w hSw); first | (go_simp; done) | (go_simp; with_reducible rfl))
          refine wpAnyH_take (i := 10) (v := ?v49r8n5q11) rfl (by kernel_rfl) (by kernel_rfl) (by kernel_rfl) (fun _ _ _ h => h) (Or.inl ⟨by kernel_rfl, ?hy49r8n5q11⟩) (by assumption) ?hr49r8n5q11
          case hy49r8n5q11 => (intro w hSw; (try dsimp only at hSw); (obtain ⟨c0, c1, c2⟩ := HCV.out w hSw); first | (go_simp; done) | (go_simp; with_reducible rfl))
          refine wpAnyH_take (i := 11) (v := ?v49r8n5q12) rfl (by kernel_rfl) (by kernel_rfl) (by kernel_rfl) (fun _ _ _ h => h) (Or.inl ⟨by kernel_rfl, ?hy49r8n5q12⟩) (by assumption) ?hr49r8n5q12
          case hy49r8n5q12 => (intro w hSw; (try dsimp only at hSw); (obtain ⟨c0, c1, c2⟩ := HCV.out w hSw); first | (go_simp; done) | (go_simp; with_reducible rfl))
          refine wpAnyH_take (i := 12) (v := ?v49r8n5q13) rfl (by kernel_rfl) (by kernel_rfl) (by kernel_rfl) (fun _ _ _ h => h) (Or.inl ⟨by kernel_rfl, ?hy49r8n5q13⟩) (by assumption) ?hr49r8n5q13
          case hy49r8n5q13 => (intro w hSw; (try dsimp only at hSw); (obtain ⟨c0, c1, c2⟩ := HCV.out w hSw); first | (go_simp; done) | (go_simp; with_reducible rfl))
          refine wpAnyH_take (i := 13) (v := ?v49r8n5q14) rfl (by kernel_rfl) (by kernel_rfl) (by kernel_rfl) (fun _ _ _ h => h) (Or.inl ⟨by kernel_rfl, ?hy49r8n5q14⟩) (by assumption) ?hr49r8n5q14
          case hy49r8n5q14 => (intro w hSw; (try dsimp only at hSw); (obtain ⟨c0, c1, c2⟩ := HCV.out w hSw); first | (go_simp; done) | (go_simp; with_reducible rfl))
          refine wpAnyH_take (i := 14) (v := ?v49r8n5q15) rfl (by kernel_rfl) (by kernel_rfl) (by kernel_rfl) (fun _ _ _ h => h) (Or.inl ⟨by kernel_rfl, ?hy49r8n5q15⟩) (by assumption) ?hr49r8n5q15
          case hy49r8n5q15 => (intro w hSw; (try dsimp only at hSw); (obtain ⟨c0, c1, c2⟩ := HCV.out w hSw); first | (go_simp; done) | (go_simp; with_reducible rfl))
          refine wpAnyH_take (i := 15) (v := ?v49r8n5q16) rfl (by kernel_rfl) (by kernel_rfl) (by kernel_rfl) (fun _ _ _ h => h) (Or.inl ⟨by kernel_rfl, ?hy49r8n5q16⟩) (by assumption) ?hr49r8n5q16
          case hy49r8n5q16 => (intro w hSw; (try dsimp only at hSw); (obtain ⟨c0, c1, c2⟩ := HCV.out w hSw); first | (go_simp; done) | (go_simp; with_reducible rfl))
          refine wpAnyH_take (i := 16) (v := ?v49r8n5q17) rfl (by kernel_rfl) (by kernel_rfl) (by kernel_rfl) (fun _ _ _ h => h) (Or.inl ⟨by kernel_rfl, ?hy49r8n5q17⟩) (by assumption) ?hr49r8n5q17
          case hy49r8n5q17 => (intro w hSw; (try dsimp only at hSw); (obtain ⟨c0, c1, c2⟩ := HCV.out w hSw); first | (go_simp; done) | (go_simp; with_reducible rfl))
          refine wpAnyH_take (i := 17) (v := ?v49r8n5q18) rfl (by kernel_rfl) (by kernel_rfl) (by kernel_rfl) (fun _ _ _ h => h) (Or.inl ⟨by kernel_rfl, ?hy49r8n5q18⟩) (by assumption) ?hr49r8n5q18
          case hy49r8n5q18 => (intro w hSw; (try dsimp only at hSw); (obtain ⟨c0, c1, c2⟩ := HCV.out w hSw); first | (go_simp; done) | (go_simp; with_reducible rfl))
          refine wpAnyH_take (i := 18) (v := ?v49r8n5q19) rfl (by kernel_rfl) (by kernel_rfl) (by kernel_rfl) (fun _ _ _ h => h) (Or.inl ⟨by kernel_rfl, ?hy49r8n5q19⟩) (by assumption) ?hr49r8n5q19
          case hy49r8n5q19 => (intro w hSw; (try dsimp only at hSw); (obtain ⟨c0, c1, c2⟩ := HCV.out w hSw); first | (go_simp; done) | (go_simp; with_reducible rfl))
          refine wpAnyH_take (i := 19) (v := ?v49r8n5q20) rfl (by kernel_rfl) (by kernel_rfl) (by kernel_rfl) (fun _ _ _ h => h) (Or.inl ⟨by kernel_rfl, ?hy49r8n5q20⟩) (by assumption) ?hr49r8n5q20
          case hy49r8n5q20 => (intro w hSw; (try dsimp only at hSw); (obtain ⟨c0, c1, c2⟩ := HCV.out w hSw); first | (go_simp; done) | (go_simp; with_reducible rfl))
          refine wpAnyH_take (i := 20) (v := ?v49r8n5q21) rfl (by kernel_rfl) (by kernel_rfl) (by kernel_rfl) (fun _ _ _ h => h) (Or.inl ⟨by kernel_rfl, ?hy49r8n5q21⟩) (by assumption) ?hr49r8n5q21
          case hy49r8n5q21 => (intro w hSw; (try dsimp only at hSw); (obtain ⟨c0, c1, c2⟩ := HCV.out w hSw); first | (go_simp; done) | (go_simp; with_reducible rfl))
          refine wpAnyH_take (i := 21) (v := ?v49r8n5q22) rfl (by kernel_rfl) (by kernel_rfl) (by kernel_rfl) (fun _ _ _ h => h) (Or.inl ⟨by kernel_rfl, ?hy49r8n5q22⟩) (by assumption) ?hr49r8n5q22
          case hy49r8n5q22 => (intro w hSw; (try dsimp only at hSw); (obtain ⟨c0, c1, c2⟩ := HCV.out w hSw); first | (go_simp; done) | (go_simp; with_reducible rfl))
          refine wpAnyH_take (i := 22) (v := ?v49r8n5q23) rfl (by kernel_rfl) (by kernel_rfl) (by kernel_rfl) (fun _ _ _ h => h) (Or.inl ⟨by kernel_rfl, ?hy49r8n5q23⟩) (by assumption) ?hr49r8n5q23
          case hy49r8n5q23 => (intro w hSw; (try dsimp only at hSw); (obtain ⟨c0, c1, c2⟩ := HCV.out w hSw); first | (go_simp; done) | (go_simp; with_reducible rfl))
          refine wpAnyH_take (i := 23) (v := ?v49r8n5q24) rfl (by kernel_rfl) (by kernel_rfl) (by kernel_rfl) (fun _ _ _ h => h) (Or.inl ⟨by kernel_rfl, ?hy49r8n5q24⟩) (by assumption) ?hr49r8n5q24
          case hy49r8n5q24 => (intro w hSw; (try dsimp only at hSw); (obtain ⟨c0, c1, c2⟩ := HCV.out w hSw); first | (go_simp; done) | (go_simp; with_reducible rfl))
          refine wpAnyH_take (i := 24) (v := ?v49r8n5q25) rfl (by kernel_rfl) (by kernel_rfl) (by kernel_rfl) (fun _ _ _ h => h) (Or.inl ⟨by kernel_rfl, ?hy49r8n5q25⟩) (by assumption) ?hr49r8n5q25
          case hy49r8n5q25 => (intro w hSw; (try dsimp only at hSw); (obtain ⟨c0, c1, c2⟩ := HCV.out w hSw); first | (go_simp; done) | (go_simp; with_reducible rfl))
          refine wpAnyH_take (i := 25) (v := ?v49r8n5q26) rfl (by kernel_rfl) (by kernel_rfl) (by kernel_rfl) (fun _ _ _ h => h) (Or.inl ⟨by kernel_rfl, ?hy49r8n5q26⟩) (by assumption) ?hr49r8n5q26
          case hy49r8n5q26 => (intro w hSw; (try dsimp only at hSw); (obtain ⟨c0, c1, c2⟩ := HCV.out w hSw); first | (go_simp; done) | (go_simp; with_reducible rfl))
          refine wpAnyH_take (i := 26) (v := ?v49r8n5q27) rfl (by kernel_rfl) (by kernel_rfl) (by kernel_rfl) (fun _ _ _ h => h) (Or.inl ⟨by kernel_rfl, ?hy49r8n5q27⟩) (by assumption) ?hr49r8n5q27
          case hy49r8n5q27 => (intro w hSw; (try dsimp only at hSw); (obtain ⟨c0, c1, c2⟩ := HCV.out w hSw); first | (go_simp; done) | (go_simp; with_reducible rfl))
          refine wpAnyH_take (i := 27) (v := ?v49r8n5q28) rfl (by kernel_rfl) (by kernel_rfl) (by kernel_rfl) (fun _ _ _ h => h) (Or.inl ⟨by kernel_rfl, ?hy49r8n5q28⟩) (by assumption) ?hr49r8n5q28
          case hy49r8n5q28 => (intro w hSw; (try dsimp only at hSw); (obtain ⟨c0, c1, c2⟩ := HCV.out w hSw); first | (go_simp; done) | (go_simp; with_reducible rfl))
          refine wpAnyH_take (i := 28) (v := ?v49r8n5q29) rfl (by kernel_rfl) (by kernel_rfl) (by kernel_rfl) (fun _ _ _ h => h) (Or.inl ⟨by kernel_rfl, ?hy49r8n5q29⟩) (by assumption) ?hr49r8n5q29
          case hy49r8n5q29 => (intro w hSw; (try dsimp only at hSw); (obtain ⟨c0, c1, c2⟩ := HCV.out w hSw); first | (go_simp; done) | (go_simp; with_reducible rfl))
          refine wpAnyH_take (i := 29) (v := ?v49r8n5q30) rfl (by kernel_rfl) (by kernel_rfl) (by kernel_rfl) (fun _ _ _ h => h) (Or.inl ⟨by kernel_rfl, ?hy49r8n5q30⟩) (by assumption) ?hr49r8n5q30
          case hy49r8n5q30 => (intro w hSw; (try dsimp only at hSw); (obtain ⟨c0, c1, c2⟩ := HCV.out w hSw); first | (go_simp; done) | (go_simp; with_reducible rfl))
          refine wpAnyH_take (i := 30) (v := ?v49r8n5q31) rfl (by kernel_rfl) (by kernel_rfl) (by kernel_rfl) (fun _ _ _ h => h) (Or.inl ⟨by kernel_rfl, ?hy49r8n5q31⟩) (by assumption) ?hr49r8n5q31
          case hy49r8n5q31 => (intro w hSw; (try dsimp only at hSw); (obtain ⟨c0, c1, c2⟩ := HCV.out w hSw); first | (go_simp; done) | (go_simp; with_reducible rfl))
          refine wpAnyH_take (i := 31) (v := ?v49r8n5q32) rfl (by kernel_rfl) (by kernel_rfl) (by kernel_rfl) (fun _ _ _ h => h) (Or.inl ⟨by kernel_rfl, ?hy49r8n5q32⟩) (by assumption) ?hr49r8n5q32
          case hy49r8n5q32 => (intro w hSw; (try dsimp only at hSw); (obtain ⟨c0, c1, c2⟩ := HCV.out w hSw); first | (go_simp; done) | (go_simp; with_reducible rfl))
          refine wpAnyH_take (i := 32) (v := ?v49r8n5q33) rfl (by kernel_rfl) (by kernel_rfl) (by kernel_rfl) (fun _ _ _ h => h) (Or.inl ⟨by kernel_rfl, ?hy49r8n5q33⟩) (by assumption) ?hr49r8n5q33
          case hy49r8n5q33 => (intro w hSw; (try dsimp only at hSw); (obtain ⟨c0, c1, c2⟩ := HCV.out w hSw); first | (go_simp; done) | (go_simp; with_reducible rfl))
          refine wpAnyH_take (i := 33) (v := ?v49r8n5q34) rfl (by kernel_rfl) (by kernel_rfl) (by kernel_rfl) (fun _ _ _ h => h) (Or.inl ⟨by kernel_rfl, ?hy49r8n5q34⟩) (by assumption) ?hr49r8n5q34
          case hy49r8n5q34 => (intro w hSw; (try dsimp only at hSw); (obtain ⟨c0, c1, c2⟩ := HCV.out w hSw); first | (go_simp; done) | (go_simp; with_reducible rfl))
          refine wpAnyH_take (i := 34) (v := ?v49r8n5q35) rfl (by kernel_rfl) (by kernel_rfl) (by kernel_rfl) (fun _ _ _ h => h) (Or.inl ⟨by kernel_rfl, ?hy49r8n5q35⟩) (by assumption) ?hr49r8n5q35
          case hy49r8n5q35 => (intro w hSw; (try dsimp only at hSw); (obtain ⟨c0, c1, c2⟩ := HCV.out w hSw); first | (go_simp; done) | (go_simp; with_reducible rfl))
          refine wpAnyH_take (i := 35) (v := ?v49r8n5q36) rfl (by kernel_rfl) (by kernel_rfl) (by kernel_rfl) (fun _ _ _ h => h) (Or.inl ⟨by kernel_rfl, ?hy49r8n5q36⟩) (by assumption) ?hr49r8n5q36
          case hy49r8n5q36 => (intro w hSw; (try dsimp only at hSw); (obtain ⟨c0, c1, c2⟩ := HCV.out w hSw); first | (go_simp; done) | (go_simp; with_reducible rfl))
          refine wpAnyH_take (i := 36) (v := ?v49r8n5q37) rfl (by kernel_rfl) (by kernel_rfl) (by kernel_rfl) (fun _ _ _ h => h) (Or.inl ⟨by kernel_rfl, ?hy49r8n5q37⟩) (by assumption) ?hr49r8n5q37
          case hy49r8n5q37 => (intro w hSw; (try dsimp only at hSw); (obtain ⟨c0, c1, c2⟩ := HCV.out w hSw); first | (go_simp; done) | (go_simp; with_reducible rfl))
          refine wpAnyH_take (i := 37) (v := ?v49r8n5q38) rfl (by kernel_rfl) (by kernel_rfl) (by kernel_rfl) (fun _ _ _ h => h) (Or.inl ⟨by kernel_rfl, ?hy49r8n5q38⟩) (by assumption) ?hr49r8n5q38
          case hy49r8n5q38 => (intro w hSw; (try dsimp only at hSw); (obtain ⟨c0, c1, c2⟩ := HCV.out w hSw); first | (go_simp; done) | (go_simp; with_reducible rfl))
          refine wpAnyH_ready (rs := [38]) (by kernel_rfl) (by simp) (AllReadyH.cons rfl (fun K hK => ?hc49r8n5q39) AllReadyH.nil)
          go_simp
          (go_at_call 77; refine (HE2.out _ hHeld).mono ?_; rintro e w69 ⟨rfl, rfl⟩; (try dsimp only))
          refine hK.out _ _ ?hs49r8n5q39 (fun hHeld49r8n5q39 => ?ht49r8n5q39)
          case hs49r8n5q39 => ((try dsimp only); (exact hHeld))
          clear hHeld hK
          have hHeld := hHeld49r8n5q39
          clear hHeld49r8n5q39
          refine wpAnyH_take (i := 39) (v := ?v49r8n5q40) rfl (by kernel_rfl) (by kernel_rfl) (by kernel_rfl) (fun _ _ _ h => h) (Or.inl ⟨by kernel_rfl, ?hy49r8n5q40⟩) (by assumption) ?hr49r8n5q40
          case hy49r8n5q40 => (intro w hSw; (try dsimp only at hSw); (obtain ⟨c0, c1, c2⟩ := HCV.out w hSw); first | (go_simp; done) | (go_simp; with_reducible rfl))
          refine wpAnyH_take (i := 40) (v := ?v49r8n5q41) rfl (by kernel_rfl) (by kernel_rfl) (by kernel_rfl) (fun _ _ _ h => h) (Or.inl ⟨by kernel_rfl, ?hy49r8n5q41⟩) (by assumption) ?hr49r8n5q41
          case hy49r8n5q41 => (intro w hSw; (try dsimp only at hSw); (obtain ⟨c0, c1, c2⟩ := HCV.out w hSw); first | (go_simp; done) | (go_simp; with_reducible rfl))
          refine wpAnyH_done (by kernel_rfl) ?_ _
          clear hHeld
          refine NoPanic.normal ?_
          (try dsimp only [Exit.inBlock, Exit.then])
          exact hMK _ _ ⟨by kernel_rfl, by kernel_rfl, by kernel_rfl, by kernel_rfl, by kernel_rfl, by kernel_rfl, (Eq.trans (by kernel_rfl) (congrArg Value.bool hB.symm)), (Below.refl _ _).drew⟩
        have g3 : (zl == 0) = false := by simp [p5]
        have hB := HBAD.out.2 p1 p2 p3 p4 (fun h => p5 h.1)
        clear p1 p2 p5
        refine wp_region_noPanic (wp_region_held_drew (S := (fun Y => Below V.heap.size V Y)) (by kernel_rfl) ?hS49r8n6 (fun hHeld => ?hR49r8n6))
        case hS49r8n6 => ((try dsimp only); (exact (Below.refl _ _).drew))
        refine wpAnyH_take (i := 0) (v := ?v49r8n6q1) rfl (by kernel_rfl) (by kernel_rfl) (by kernel_rfl) (fun _ _ _ h => h) (Or.inl ⟨by kernel_rfl, ?hy49r8n6q1⟩) (by assumption) ?hr49r8n6q1
        case hy49r8n6q1 => (intro w hSw; (try dsimp only at hSw); (obtain ⟨c0, c1, c2⟩ := HCV.out w hSw); first | (go_simp; done) | (go_simp; with_reducible rfl))
        refine wpAnyH_take (i := 1) (v := ?v49r8n6q2) rfl (by kernel_rfl) (by kernel_rfl) (by kernel_rfl) (fun _ _ _ h => h) (Or.inl ⟨by kernel_rfl, ?hy49r8n6q2⟩) (by assumption) ?hr49r8n6q2
        case hy49r8n6q2 => (intro w hSw; (try dsimp only at hSw); (obtain ⟨c0, c1, c2⟩ := HCV.out w hSw); first | (go_simp; done) | (go_simp; with_reducible rfl))
        refine wpAnyH_ready (rs := [2]) (by kernel_rfl) (by simp) (AllReadyH.cons rfl (fun K hK => ?hc49r8n6q3) AllReadyH.nil)
        go_simp
        (go_at_call 77; refine (hE1.out _ hHeld).mono ?_; rintro e w33 ⟨rfl, rfl⟩; (try dsimp only))
        refine hK.out _ _ ?hs49r8n6q3 (fun hHeld49r8n6q3 => ?ht49r8n6q3)
        case hs49r8n6q3 => ((try dsimp only); (exact hHeld))
        clear hHeld hK
        have hHeld := hHeld49r8n6q3
        clear hHeld49r8n6q3
        refine wpAnyH_take (i := 3) (v := ?v49r8n6q4) rfl (by kernel_rfl) (by kernel_rfl) (by kernel_rfl) (fun _ _ _ h => h) (Or.inl ⟨by kernel_rfl, ?hy49r8n6q4⟩) (by assumption) ?hr49r8n6q4
        case hy49r8n6q4 => (intro w hSw; (try dsimp only at hSw); (obtain ⟨c0, c1, c2⟩ := HCV.out w hSw); first | (go_simp; done) | (go_simp; with_reducible rfl))
        refine wpAnyH_take (i := 4) (v := ?v49r8n6q5) rfl (by kernel_rfl) (by kernel_rfl) (by kernel_rfl) (fun _ _ _ h => h) (Or.inl ⟨by kernel_rfl, ?hy49r8n6q5⟩) (by assumption) ?hr49r8n6q5
        case hy49r8n6q5 => (intro w hSw; (try dsimp only at hSw); (obtain ⟨c0, c1, c2⟩ := HCV.out w hSw); first | (go_simp; done) | (go_simp; with_reducible rfl))
        refine wpAnyH_take (i := 5) (v := ?v49r8n6q6) rfl (by kernel_rfl) (by kernel_rfl) (by kernel_rfl) (fun _ _ _ h => h) (Or.inl ⟨by kernel_rfl, ?hy49r8n6q6⟩) (by assumption) ?hr49r8n6q6
        case hy49r8n6q6 => (intro w hSw; (try dsimp only at hSw); (obtain ⟨c0, c1, c2⟩ := HCV.out w hSw); first | (go_simp; done) | (go_simp; with_reducible rfl))
        refine wpAnyH_take (i := 6) (v := ?v49r8n6q7) rfl (by kernel_rfl) (by kernel_rfl) (by kernel_rfl) (fun _ _ _ h => h) (Or.inl ⟨by kernel_rfl, ?hy49r8n6q7⟩) (by assumption) ?hr49r8n6q7
        case hy49r8n6q7 => (intro w hSw; (try dsimp only at hSw); (obtain ⟨c0, c1, c2⟩ := HCV.out w hSw); first | (go_simp; done) | (go_simp; with_reducible rfl))
        refine wpAnyH_take (i := 7) (v := ?v49r8n6q8) rfl (by kernel_rfl) (by kernel_rfl) (by kernel_rfl) (fun _ _ _ h => h) (Or.inl ⟨by kernel_rfl, ?hy49r8n6q8⟩) (by assumption) ?hr49r8n6q8
        case hy49r8n6q8 => (intro w hSw; (try dsimp only at hSw); (obtain ⟨c0, c1, c2⟩ := HCV.out w hSw); first | (go_simp; done) | (go_simp; with_reducible rfl))
        refine wpAnyH_take (i := 8) (v := ?v49r8n6q9) rfl (by kernel_rfl) (by kernel_rfl) (by kernel_rfl) (fun _ _ _ h => h) (Or.inl ⟨by kernel_rfl, ?hy49r8n6q9⟩) (by assumption) ?hr49r8n6q9
        case hy49r8n6q9 => (intro w hSw; (try dsimp only at hSw); (obtain ⟨c0, c1, c2⟩ := HCV.out w hSw); first | (go_simp; done) | (go_simp; with_reducible rfl))
        refine wpAnyH_take (i := 9) (v := ?v49r8n6q10) rfl (by kernel_rfl) (by kernel_rfl) (by kernel_rfl) (fun _ _ _ h => h) (Or.inl ⟨by kernel_rfl, ?hy49r8n6q10⟩) (by assumption) ?hr49r8n6q10
        case hy49r8n6q10 => (intro w hSw; (try dsimp only at hSw); (obtain ⟨c0, c1, c2⟩ := HCV.out w hSw); first | (go_simp; done) | (go_simp; with_reducible rfl))
        refine wpAnyH_take (i := 10) (v := ?v49r8n6q11) rfl (by kernel_rfl) (by kernel_rfl) (by kernel_rfl) (fun _ _ _ h => h) (Or.inl ⟨by kernel_rfl, ?hy49r8n6q11⟩) (by assumption) ?hr49r8n6q11
        case hy49r8n6q11 => (intro w hSw; (try dsimp only at hSw); (obtain ⟨c0, c1, c2⟩ := HCV.out w hSw); first | (go_simp; done) | (go_simp; with_reducible rfl))
        refine wpAnyH_take (i := 11) (v := ?v49r8n6q12) rfl (by kernel_rfl) (by kernel_rfl) (by kernel_rfl) (fun _ _ _ h => h) (Or.inl ⟨by kernel_rfl, ?hy49r8n6q12⟩) (by assumption) ?hr49r8n6q12
        case hy49r8n6q12 => (intro w hSw; (try dsimp only at hSw); (obtain ⟨c0, c1, c2⟩ := HCV.out w hSw); first | (go_simp; done) | (go_simp; with_reducible rfl))
        refine wpAnyH_take (i := 12) (v := ?v49r8n6q13) rfl (by kernel_rfl) (by kernel_rfl) (by kernel_rfl) (fun _ _ _ h => h) (Or.inl ⟨by kernel_rfl, ?hy49r8n6q13⟩) (by assumption) ?hr49r8n6q13
        case hy49r8n6q13 => (intro w hSw; (try dsimp only at hSw); (obtain ⟨c0, c1, c2⟩ := HCV.out w hSw); first | (go_simp; done) | (go_simp; with_reducible rfl))
        refine wpAnyH_take (i := 13) (v := ?v49r8n6q14) rfl (by kernel_rfl) (by kernel_rfl) (by kernel_rfl) (fun _ _ _ h => h) (Or.inl ⟨by kernel_rfl, ?hy49r8n6q14⟩) (by assumption) ?hr49r8n6q14
        case hy49r8n6q14 => (intro w hSw; (try dsimp only at hSw); (obtain ⟨c0, c1, c2⟩ := HCV.out w hSw); first | (go_simp; done) | (go_simp; with_reducible rfl))
        refine wpAnyH_take (i := 14) (v := ?v49r8n6q15) rfl (by kernel_rfl) (by kernel_rfl) (by kernel_rfl) (fun _ _ _ h => h) (Or.inl ⟨by kernel_rfl, ?hy49r8n6q15⟩) (by assumption) ?hr49r8n6q15
        case hy49r8n6q15 => (intro w hSw; (try dsimp only at hSw); (obtain ⟨c0, c1, c2⟩ := HCV.out w hSw); first | (go_simp; done) | (go_simp; with_reducible rfl))
        refine wpAnyH_take (i := 15) (v := ?v49r8n6q16) rfl (by kernel_rfl) (by kernel_rfl) (by kernel_rfl) (fun _ _ _ h => h) (Or.inl ⟨by kernel_rfl, ?hy49r8n6q16⟩) (by assumption) ?hr49r8n6q16
        case hy49r8n6q16 => (intro w hSw; (try dsimp only at hSw); (obtain ⟨c0, c1, c2⟩ := HCV.out w hSw); first | (go_simp; done) | (go_simp; with_reducible rfl))
        refine wpAnyH_take (i := 16) (v := ?v49r8n6q17) rfl (by kernel_rfl) (by kernel_rfl) (by kernel_rfl) (fun _ _ _ h => h) (Or.inl ⟨by kernel_rfl, ?hy49r8n6q17⟩) (by assumption) ?hr49r8n6q17
        case hy49r8n6q17 => (intro w hSw; (try dsimp only at hSw); (obtain ⟨c0, c1, c2⟩ := HCV.out w hSw); first | (go_simp; done) | (go_simp; with_reducible rfl))
        refine wpAnyH_take (i := 17) (v := ?v49r8n6q18) rfl (by kernel_rfl) (by kernel_rfl) (by kernel_rfl) (fun _ _ _ h => h) (Or.inl ⟨by kernel_rfl, ?hy49r8n6q18⟩) (by assumption) ?hr49r8n6q18
        case hy49r8n6q18 => (intro w hSw; (try dsimp only at hSw); (obtain ⟨c0, c1, c2⟩ := HCV.out w hSw); first | (go_simp; done) | (go_simp; with_reducible rfl))
        refine wpAnyH_take (i := 18) (v := ?v49r8n6q19) rfl (by kernel_rfl) (by kernel_rfl) (by kernel_rfl) (fun _ _ _ h => h) (Or.inl ⟨by kernel_rfl, ?hy49r8n6q19⟩) (by assumption) ?hr49r8n6q19
        case hy49r8n6q19 => (intro w hSw; (try dsimp only at hSw); (obtain ⟨c0, c1, c2⟩ := HCV.out w hSw); first | (go_simp; done) | (go_simp; with_reducible rfl))
        refine wpAnyH_take (i := 19) (v := ?v49r8n6q20) rfl (by kernel_rfl) (by kernel_rfl) (by kernel_rfl) (fun _ _ _ h => h) (Or.inl ⟨by kernel_rfl, ?hy49r8n6q20⟩) (by assumption) ?hr49r8n6q20
        case hy49r8n6q20 => (intro w hSw; (try dsimp only at hSw); (obtain ⟨c0, c1, c2⟩ := HCV.out w hSw); first | (go_simp; done) | (go_simp; with_reducible rfl))
        refine wpAnyH_take (i := 20) (v := ?v49r8n6q21) rfl (by kernel_rfl) (by kernel_rfl) (by kernel_rfl) (fun _ _ _ h => h) (Or.inl ⟨by kernel_rfl, ?hy49r8n6q21⟩) (by assumption) ?hr49r8n6q21
        case hy49r8n6q21 => (intro w hSw; (try dsimp only at hSw); (obtain ⟨c0, c1, c2⟩ := HCV.out w hSw); first | (go_simp; done) | (go_simp; with_reducible rfl))
        refine wpAnyH_take (i := 21) (v := ?v49r8n6q22) rfl (by kernel_rfl) (by kernel_rfl) (by kernel_rfl) (fun _ _ _ h => h) (Or.inl ⟨by kernel_rfl, ?hy49r8n6q22⟩) (by assumption) ?hr49r8n6q22
        case hy49r8n6q22 => (intro w hSw; (try dsimp only at hSw); (obtain ⟨c0, c1, c2⟩ := HCV.out w hSw); first | (go_simp; done) | (go_simp; with_reducible rfl))
        refine wpAnyH_take (i := 22) (v := ?v49r8n6q23) rfl (by kernel_rfl) (by kernel_rfl) (by kernel_rfl) (fun _ _ _ h => h) (Or.inl ⟨by kernel_rfl, ?hy49r8n6q23⟩) (by assumption) ?hr49r8n6q23
        case hy49r8n6q23 => (intro w hSw; (try dsimp only at hSw); (obtain ⟨c0, c1, c2⟩ := HCV.out w hSw); first | (go_simp; done) | (go_simp; with_reducible rfl))
        refine wpAnyH_take (i := 23) (v := ?v49r8n6q24) rfl (by kernel_rfl) (by kernel_rfl) (by kernel_rfl) (fun _ _ _ h => h) (Or.inl ⟨by kernel_rfl, ?hy49r8n6q24⟩) (by assumption) ?hr49r8n6q24
        case hy49r8n6q24 => (intro w hSw; (try dsimp only at hSw); (obtain ⟨c0, c1, c2⟩ := HCV.out w hSw); first | (go_simp; done) | (go_simp; with_reducible rfl))
        refine wpAnyH_take (i := 24) (v := ?v49r8n6q25) rfl (by kernel_rfl) (by kernel_rfl) (by kernel_rfl) (fun _ _ _ h => h) (Or.inl ⟨by kernel_rfl, ?hy49r8n6q25⟩) (by assumption) ?hr49r8n6q25
        case hy49r8n6q25 => (intro w hSw; (try dsimp only at hSw); (obtain ⟨c0, c1, c2⟩ := HCV.out w hSw); first | (go_simp; done) | (go_simp; with_reducible rfl))
        refine wpAnyH_take (i := 25) (v := ?v49r8n6q26) rfl (by kernel_rfl) (by kernel_rfl) (by kernel_rfl) (fun _ _ _ h => h) (Or.inl ⟨by kernel_rfl, ?hy49r8n6q26⟩) (by assumption) ?hr49r8n6q26
        case hy49r8n6q26 => (intro w hSw; (try dsimp only at hSw); (obtain ⟨c0, c1, c2⟩ := HCV.out w hSw); first | (go_simp; done) | (go_simp; with_reducible rfl))
        refine wpAnyH_take (i := 26) (v := ?v49r8n6q27) rfl (by kernel_rfl) (by kernel_rfl) (by kernel_rfl) (fun _ _ _ h => h) (Or.inl ⟨by kernel_rfl, ?hy49r8n6q27⟩) (by assumption) ?hr49r8n6q27
        case hy49r8n6q27 => (intro w hSw; (try dsimp only at hSw); (obtain ⟨c0, c1, c2⟩ := HCV.out w hSw); first | (go_simp; done) | (go_simp; with_reducible rfl))
        refine wpAnyH_take (i := 27) (v := ?v49r8n6q28) rfl (by kernel_rfl) (by kernel_rfl) (by kernel_rfl) (fun _ _ _ h => h) (Or.inl ⟨by kernel_rfl, ?hy49r8n6q28⟩) (by assumption) ?hr49r8n6q28
        case hy49r8n6q28 => (intro w hSw; (try dsimp only at hSw); (obtain ⟨c0, c1, c2⟩ := HCV.out w hSw); first | (go_simp; done) | (go_simp; with_reducible rfl))
        refine wpAnyH_take (i := 28) (v := undef) rfl (by kernel_rfl) (by kernel_rfl) (by kernel_rfl) (fun _ _ _ h => h) (Or.inr ⟨by kernel_rfl, rfl⟩) (by assumption) ?_
        refine wpAnyH_take (i := 29) (v := undef) rfl (by kernel_rfl) (by kernel_rfl) (by kernel_rfl) (fun _ _ _ h => h) (Or.inr ⟨by kernel_rfl, rfl⟩) (by assumption) ?_
        refine wpAnyH_take (i := 30) (v := undef) rfl (by kernel_rfl) (by kernel_rfl) (by kernel_rfl) (fun _ _ _ h => h) (Or.inr ⟨by kernel_rfl, rfl⟩) (by assumption) ?_
        refine wpAnyH_take (i := 31) (v := ?v49r8n6q32) rfl (by kernel_rfl) (by kernel_rfl) (by kernel_rfl) (fun _ _ _ h => h) (Or.inl ⟨by kernel_rfl, ?hy49r8n6q32⟩) (by assumption) ?hr49r8n6q32
        case hy49r8n6q32 => (intro w hSw; (try dsimp only at hSw); (obtain ⟨c0, c1, c2⟩ := HCV.out w hSw); first | (go_simp; done) | (go_simp; with_reducible rfl))
        refine wpAnyH_take (i := 32) (v := ?v49r8n6q33) rfl (by kernel_rfl) (by kernel_rfl) (by kernel_rfl) (fun _ _ _ h => h) (Or.inl ⟨by kernel_rfl, ?hy49r8n6q33⟩) (by assumption) ?hr49r8n6q33
        case hy49r8n6q33 => (intro w hSw; (try dsimp only at hSw); (obtain ⟨c0, c1, c2⟩ := HCV.out w hSw); first | (go_simp; done) | (go_simp; with_reducible rfl))
        refine wpAnyH_take (i := 33) (v := ?v49r8n6q34) rfl (by kernel_rfl) (by kernel_rfl) (by kernel_rfl) (fun _ _ _ h => h) (Or.inl ⟨by kernel_rfl, ?hy49r8n6q34⟩) (by assumption) ?hr49r8n6q34
        case hy49r8n6q34 => (intro w hSw; (try dsimp only at hSw); (obtain ⟨c0, c1, c2⟩ := HCV.out w hSw); first | (go_simp; done) | (go_simp; with_reducible rfl))
        refine wpAnyH_take (i := 34) (v := ?v49r8n6q35) rfl (by kernel_rfl) (by kernel_rfl) (by kernel_rfl) (fun _ _ _ h => h) (Or.inl ⟨by kernel_rfl, ?hy49r8n6q35⟩) (by assumption) ?hr49r8n6q35
        case hy49r8n6q35 => (intro w hSw; (try dsimp only at hSw); (obtain ⟨c0, c1, c2⟩ := HCV.out w hSw); first | (go_simp; done) | (go_simp; with_reducible rfl))
        refine wpAnyH_take (i := 35) (v := ?v49r8n6q36) rfl (by kernel_rfl) (by kernel_rfl) (by kernel_rfl) (fun _ _ _ h => h) (Or.inl ⟨by kernel_rfl, ?hy49r8n6q36⟩) (by assumption) ?hr49r8n6q36
        case hy49r8n6q36 => (intro w hSw; (try dsimp only at hSw); (obtain ⟨c0, c1, c2⟩ := HCV.out w hSw); first | (go_simp; done) | (go_simp; with_reducible rfl))
        refine wpAnyH_take (i := 36) (v := ?v49r8n6q37) rfl (by kernel_rfl) (by kernel_rfl) (by kernel_rfl) (fun _ _ _ h => h) (Or.inl ⟨by kernel_rfl, ?hy49r8n6q37⟩) (by assumption) ?hr49r8n6q37
        case hy49r8n6q37 => (intro w hSw; (try dsimp only at hSw); (obtain ⟨c0, c1, c2⟩ := HCV.out w hSw); first | (go_simp; done) | (go_simp; with_reducible rfl))
        refine wpAnyH_take (i := 37) (v := ?v49r8n6q38) rfl (by kernel_rfl) (by kernel_rfl) (by kernel_rfl) (fun _ _ _ h => h) (Or.inl ⟨by kernel_rfl, ?hy49r8n6q38⟩) (by assumption) ?hr49r8n6q38
        case hy49r8n6q38 => (intro w hSw; (try dsimp only at hSw); (obtain ⟨c0, c1, c2⟩ := HCV.out w hSw); first | (go_simp; done) | (go_simp; with_reducible rfl))
        refine wpAnyH_ready (rs := [38]) (by kernel_rfl) (by simp) (AllReadyH.cons rfl (fun K hK => ?hc49r8n6q39) AllReadyH.nil)
        go_simp
        (go_at_call 77; refine (HE2.out _ hHeld).mono ?_; rintro e w69 ⟨rfl, rfl⟩; (try dsimp only))
        refine hK.out _ _ ?hs49r8n6q39 (fun hHeld49r8n6q39 => ?ht49r8n6q39)
        case hs49r8n6q39 => ((try dsimp only); (exact hHeld))
        clear hHeld hK
        have hHeld := hHeld49r8n6q39
        clear hHeld49r8n6q39
        refine wpAnyH_take (i := 39) (v := ?v49r8n6q40) rfl (by kernel_rfl) (by kernel_rfl) (by kernel_rfl) (fun _ _ _ h => h) (Or.inl ⟨by kernel_rfl, ?hy49r8n6q40⟩) (by assumption) ?hr49r8n6q40
        case hy49r8n6q40 => (intro w hSw; (try dsimp only at hSw); (obtain ⟨c0, c1, c2⟩ := HCV.out w hSw); first | (go_simp; done) | (go_simp; with_reducible rfl))
        refine wpAnyH_take (i := 40) (v := ?v49r8n6q41) rfl (by kernel_rfl) (by kernel_rfl) (by kernel_rfl) (fun _ _ _ h => h) (Or.inl ⟨by kernel_rfl, ?hy49r8n6q41⟩) (by assumption) ?hr49r8n6q41
        case hy49r8n6q41 => (intro w hSw; (try dsimp only at hSw); (obtain ⟨c0, c1, c2⟩ := HCV.out w hSw); first | (go_simp; done) | (go_simp; with_reducible rfl))
        refine wpAnyH_done (by kernel_rfl) ?_ _
        clear hHeld
        refine NoPanic.normal ?_
        (try dsimp only [Exit.inBlock, Exit.then])
        exact hMK _ _ ⟨by kernel_rfl, by kernel_rfl, by kernel_rfl, by kernel_rfl, by kernel_rfl, by kernel_rfl, (Eq.trans (by kernel_rfl) (congrArg Value.bool hB.symm)), (Below.refl _ _).drew⟩
      · have hE1 := hidep (HE1.out.1 p1)
        have hbad := HBAD.out.1 (.inl p1)
        clear p1
        refine wp_region_noPanic (wp_region_held_drew (S := (fun Y => Below V.heap.size V Y)) (by kernel_rfl) ?hS49r8n7 (fun hHeld => ?hR49r8n7))
        case hS49r8n7 => ((try dsimp only); (exact (Below.refl _ _).drew))
        refine wpAnyH_take (i := 0) (v := ?v49r8n7q1) rfl (by kernel_rfl) (by kernel_rfl) (by kernel_rfl) (fun _ _ _ h => h) (Or.inl ⟨by kernel_rfl, ?hy49r8n7q1⟩) (by assumption) ?hr49r8n7q1
        case hy49r8n7q1 => (intro w hSw; (try dsimp only at hSw); (obtain ⟨c0, c1, c2⟩ := HCV.out w hSw); first | (go_simp; done) | (go_simp; with_reducible rfl))
        refine wpAnyH_take (i := 1) (v := ?v49r8n7q2) rfl (by kernel_rfl) (by kernel_rfl) (by kernel_rfl) (fun _ _ _ h => h) (Or.inl ⟨by kernel_rfl, ?hy49r8n7q2⟩) (by assumption) ?hr49r8n7q2
        case hy49r8n7q2 => (intro w hSw; (try dsimp only at hSw); (obtain ⟨c0, c1, c2⟩ := HCV.out w hSw); first | (go_simp; done) | (go_simp; with_reducible rfl))
        refine wpAnyH_ready (rs := [2]) (by kernel_rfl) (by simp) (AllReadyH.cons rfl (fun K hK => ?hc49r8n7q3) AllReadyH.nil)
        go_simp
        (go_at_call 77; refine (hE1.out _ hHeld).mono ?_; rintro e w33 ⟨rfl, rfl⟩; (try dsimp only))
        refine hK.out _ _ ?hs49r8n7q3 (fun hHeld49r8n7q3 => ?ht49r8n7q3)
        case hs49r8n7q3 => ((try dsimp only); (exact hHeld))
        clear hHeld hK
        have hHeld := hHeld49r8n7q3
        clear hHeld49r8n7q3
        refine wpAnyH_take (i := 3) (v := ?v49r8n7q4) rfl (by kernel_rfl) (by kernel_rfl) (by kernel_rfl) (fun _ _ _ h => h) (Or.inl ⟨by kernel_rfl, ?hy49r8n7q4⟩) (by assumption) ?hr49r8n7q4
        case hy49r8n7q4 => (intro w hSw; (try dsimp only at hSw); (obtain ⟨c0, c1, c2⟩ := HCV.out w hSw); first | (go_simp; done) | (go_simp; with_reducible rfl))
        refine wpAnyH_take (i := 4) (v := ?v49r8n7q5) rfl (by kernel_rfl) (by kernel_rfl) (by kernel_rfl) (fun _ _ _ h => h) (Or.inl ⟨by kernel_rfl, ?hy49r8n7q5⟩) (by assumption) ?hr49r8n7q5
        case hy49r8n7q5 => (intro w hSw; (try dsimp only at hSw); (obtain ⟨c0, c1, c2⟩ := HCV.out w hSw); first | (go_simp; done) | (go_simp; with_reducible rfl))
        refine wpAnyH_take (i := 5) (v := undef) rfl (by kernel_rfl) (by kernel_rfl) (by kernel_rfl) (fun _ _ _ h => h) (Or.inr ⟨by kernel_rfl, rfl⟩) (by assumption) ?_
        refine wpAnyH_take (i := 6) (v := undef) rfl (by kernel_rfl) (by kernel_rfl) (by kernel_rfl) (fun _ _ _ h => h) (Or.inr ⟨by kernel_rfl, rfl⟩) (by assumption) ?_
        refine wpAnyH_take (i := 7) (v := undef) rfl (by kernel_rfl) (by kernel_rfl) (by kernel_rfl) (fun _ _ _ h => h) (Or.inr ⟨by kernel_rfl, rfl⟩) (by assumption) ?_
        refine wpAnyH_take (i := 8) (v := ?v49r8n7q9) rfl (by kernel_rfl) (by kernel_rfl) (by kernel_rfl) (fun _ _ _ h => h) (Or.inl ⟨by kernel_rfl, ?hy49r8n7q9⟩) (by assumption) ?hr49r8n7q9
        case hy49r8n7q9 => (intro w hSw; (try dsimp only at hSw); (obtain ⟨c0, c1, c2⟩ := HCV.out w hSw); first | (go_simp; done) | (go_simp; with_reducible rfl))
        refine wpAnyH_take (i := 9) (v := ?v49r8n7q10) rfl (by kernel_rfl) (by kernel_rfl) (by kernel_rfl) (fun _ _ _ h => h) (Or.inl ⟨by kernel_rfl, ?hy49r8n7q10⟩) (by assumption) ?hr49r8n7q10
        case hy49r8n7q10 => (intro w hSw; (try dsimp only at hSw); (obtain ⟨c0, c1, c2⟩ := HCV.out w hSw); first | (go_simp; done) | (go_simp; with_reducible rfl))
        refine wpAnyH_take (i := 10) (v := undef) rfl (by kernel_rfl) (by kernel_rfl) (by kernel_rfl) (fun _ _ _ h => h) (Or.inr ⟨by kernel_rfl, rfl⟩) (by assumption) ?_
        refine wpAnyH_take (i := 11) (v := undef) rfl (by kernel_rfl) (by kernel_rfl) (by kernel_rfl) (fun _ _ _ h => h) (Or.inr ⟨by kernel_rfl, rfl⟩) (by assumption) ?_
        refine wpAnyH_take (i := 12) (v := undef) rfl (by kernel_rfl) (by kernel_rfl) (by kernel_rfl) (fun _ _ _ h => h) (Or.inr ⟨by kernel_rfl, rfl⟩) (by assumption) ?_
        refine wpAnyH_take (i := 13) (v := ?v49r8n7q14) rfl (by kernel_rfl) (by kernel_rfl) (by kernel_rfl) (fun _ _ _ h => h) (Or.inl ⟨by kernel_rfl, ?hy49r8n7q14⟩) (by assumption) ?hr49r8n7q14
        case hy49r8n7q14 => (intro w hSw; (try dsimp only at hSw); (obtain ⟨c0, c1, c2⟩ := HCV.out w hSw); first | (go_simp; done) | (go_simp; with_reducible rfl))
        refine wpAnyH_take (i := 14) (v := ?v49r8n7q15) rfl (by kernel_rfl) (by kernel_rfl) (by kernel_rfl) (fun _ _ _ h => h) (Or.inl ⟨by kernel_rfl, ?hy49r8n7q15⟩) (by assumption) ?hr49r8n7q15
        case hy49r8n7q15 => (intro w hSw; (try dsimp only at hSw); (obtain ⟨c0, c1, c2⟩ := HCV.out w hSw); first | (go_simp; done) | (go_simp; with_reducible rfl))
        refine wpAnyH_take (i := 15) (v := undef) rfl (by kernel_rfl) (by kernel_rfl) (by kernel_rfl) (fun _ _ _ h => h) (Or.inr ⟨by kernel_rfl, rfl⟩) (by assumption) ?_
        refine wpAnyH_take (i := 16) (v := undef) rfl (by kernel_rfl) (by kernel_rfl) (by kernel_rfl) (fun _ _ _ h => h) (Or.inr ⟨by kernel_rfl, rfl⟩) (by assumption) ?_
        refine wpAnyH_take (i := 17) (v := undef) rfl (by kernel_rfl) (by kernel_rfl) (by kernel_rfl) (fun _ _ _ h => h) (Or.inr ⟨by kernel_rfl, rfl⟩) (by assumption) ?_
        refine wpAnyH_take (i := 18) (v := undef) rfl (by kernel_rfl) (by kernel_rfl) (by kernel_rfl) (fun _ _ _ h => h) (Or.inr ⟨by kernel_rfl, rfl⟩) (by assumption) ?_
        refine wpAnyH_take (i := 19) (v := undef) rfl (by kernel_rfl) (by kernel_rfl) (by kernel_rfl) (fun _ _ _ h => h) (Or.inr ⟨by kernel_rfl, rfl⟩) (by assumption) ?_
        refine wpAnyH_take (i := 20) (v := undef) rfl (by kernel_rfl) (by kernel_rfl) (by kernel_rfl) (fun _ _ _ h => h) (Or.inr ⟨by kernel_rfl, rfl⟩) (by assumption) ?_
        refine wpAnyH_take (i := 21) (v := undef) rfl (by kernel_rfl) (by kernel_rfl) (by kernel_rfl) (fun _ _ _ h => h) (Or.inr ⟨by kernel_rfl, rfl⟩) (by assumption) ?_
        refine wpAnyH_take (i := 22) (v := ?v49r8n7q23) rfl (by kernel_rfl) (by kernel_rfl) (by kernel_rfl) (fun _ _ _ h => h) (Or.inl ⟨by kernel_rfl, ?hy49r8n7q23⟩) (by assumption) ?hr49r8n7q23
        case hy49r8n7q23 => (intro w hSw; (try dsimp only at hSw); (obtain ⟨c0, c1, c2⟩ := HCV.out w hSw); first | (go_simp; done) | (go_simp; with_reducible rfl))
        refine wpAnyH_take (i := 23) (v := ?v49r8n7q24) rfl (by kernel_rfl) (by kernel_rfl) (by kernel_rfl) (fun _ _ _ h => h) (Or.inl ⟨by kernel_rfl, ?hy49r8n7q24⟩) (by assumption) ?hr49r8n7q24
        case hy49r8n7q24 => (intro w hSw; (try dsimp only at hSw); (obtain ⟨c0, c1, c2⟩ := HCV.out w hSw); first | (go_simp; done) | (go_simp; with_reducible rfl))
        refine wpAnyH_take (i := 24) (v := undef) rfl (by kernel_rfl) (by kernel_rfl) (by kernel_rfl) (fun _ _ _ h => h) (Or.inr ⟨by kernel_rfl, rfl⟩) (by assumption) ?_
        refine wpAnyH_take (i := 25) (v := undef) rfl (by kernel_rfl) (by kernel_rfl) (by kernel_rfl) (fun _ _ _ h => h) (Or.inr ⟨by kernel_rfl, rfl⟩) (by assumption) ?_
        refine wpAnyH_take (i := 26) (v := undef) rfl (by kernel_rfl) (by kernel_rfl) (by kernel_rfl) (fun _ _ _ h => h) (Or.inr ⟨by kernel_rfl, rfl⟩) (by assumption) ?_
        refine wpAnyH_take (i := 27) (v := undef) rfl (by kernel_rfl) (by kernel_rfl) (by kernel_rfl) (fun _ _ _ h => h) (Or.inr ⟨by kernel_rfl, rfl⟩) (by assumption) ?_
        refine wpAnyH_take (i := 28) (v := undef) rfl (by kernel_rfl) (by kernel_rfl) (by kernel_rfl) (fun _ _ _ h => h) (Or.inr ⟨by kernel_rfl, rfl⟩) (by assumption) ?_
        refine wpAnyH_take (i := 29) (v := undef) rfl (by kernel_rfl) (by kernel_rfl) (by kernel_rfl) (fun _ _ _ h => h) (Or.inr ⟨by kernel_rfl, rfl⟩) (by assumption) ?_
        refine wpAnyH_take (i := 30) (v := undef) rfl (by kernel_rfl) (by kernel_rfl) (by kernel_rfl) (fun _ _ _ h => h) (Or.inr ⟨by kernel_rfl, rfl⟩) (by assumption) ?_
        refine wpAnyH_take (i := 31) (v := undef) rfl (by kernel_rfl) (by kernel_rfl) (by kernel_rfl) (fun _ _ _ h => h) (Or.inr ⟨by kernel_rfl, rfl⟩) (by assumption) ?_
        refine wpAnyH_take (i := 32) (v := ?v49r8n7q33) rfl (by kernel_rfl) (by kernel_rfl) (by kernel_rfl) (fun _ _ _ h => h) (Or.inl ⟨by kernel_rfl, ?hy49r8n7q33⟩) (by assumption) ?hr49r8n7q33
        case hy49r8n7q33 => (intro w hSw; (try dsimp only at hSw); (obtain ⟨c0, c1, c2⟩ := HCV.out w hSw); first | (go_simp; done) | (go_simp; with_reducible rfl))
        refine wpAnyH_take (i := 33) (v := ?v49r8n7q34) rfl (by kernel_rfl) (by kernel_rfl) (by kernel_rfl) (fun _ _ _ h => h) (Or.inl ⟨by kernel_rfl, ?hy49r8n7q34⟩) (by assumption) ?hr49r8n7q34
        case hy49r8n7q34 => (intro w hSw; (try dsimp only at hSw); (obtain ⟨c0, c1, c2⟩ := HCV.out w hSw); first | (go_simp; done) | (go_simp; with_reducible rfl))
        refine wpAnyH_take (i := 34) (v := undef) rfl (by kernel_rfl) (by kernel_rfl) (by kernel_rfl) (fun _ _ _ h => h) (Or.inr ⟨by kernel_rfl, rfl⟩) (by assumption) ?_
        refine wpAnyH_take (i := 35) (v := undef) rfl (by kernel_rfl) (by kernel_rfl) (by kernel_rfl) (fun _ _ _ h => h) (Or.inr ⟨by kernel_rfl, rfl⟩) (by assumption) ?_
        refine wpAnyH_take (i := 36) (v := undef) rfl (by kernel_rfl) (by kernel_rfl) (by kernel_rfl) (fun _ _ _ h => h) (Or.inr ⟨by kernel_rfl, rfl⟩) (by assumption) ?_
        refine wpAnyH_take (i := 37) (v := undef) rfl (by kernel_rfl) (by kernel_rfl) (by kernel_rfl) (fun _ _ _ h => h) (Or.inr ⟨by kernel_rfl, rfl⟩) (by assumption) ?_
        refine wpAnyH_ready (rs := [38]) (by kernel_rfl) (by simp) (AllReadyH.cons rfl (fun K hK => ?hc49r8n7q39) AllReadyH.nil)
        first | rw [if_neg (ne_true_of_eq_false (by kernel_rfl))] | rw [if_neg (by decide)]
        refine hK.out _ _ ?hs49r8n7q39 (fun hHeld49r8n7q39 => ?ht49r8n7q39)
        case hs49r8n7q39 => ((try dsimp only); (exact hHeld))
        clear hHeld hK
        have hHeld := hHeld49r8n7q39
        clear hHeld49r8n7q39
        refine wpAnyH_take (i := 39) (v := undef) rfl (by kernel_rfl) (by kernel_rfl) (by kernel_rfl) (fun _ _ _ h => h) (Or.inr ⟨by kernel_rfl, rfl⟩) (by assumption) ?_
        refine wpAnyH_take (i := 40) (v := ?v49r8n7q41) rfl (by kernel_rfl) (by kernel_rfl) (by kernel_rfl) (fun _ _ _ h => h) (Or.inl ⟨by kernel_rfl, ?hy49r8n7q41⟩) (by assumption) ?hr49r8n7q41
        case hy49r8n7q41 => (intro w hSw; (try dsimp only at hSw); (obtain ⟨c0, c1, c2⟩ := HCV.out w hSw); first | (go_simp; done) | (go_simp; with_reducible rfl))
        refine wpAnyH_done (by kernel_rfl) ?_ _
        clear hHeld
        refine NoPanic.normal ?_
        (try dsimp only [Exit.inBlock, Exit.then])
        exact hMK _ _ ⟨by kernel_rfl, by kernel_rfl, by kernel_rfl, by kernel_rfl, by kernel_rfl, by kernel_rfl, (Eq.trans (by kernel_rfl) (congrArg Value.bool hbad.symm)), (Below.refl _ _).drew⟩
    -- ENDCHECKS
    rintro ⟨tF, dF⟩ W9 ⟨h79, hds, e0, e2, e5, e6, e71, hbW9⟩
    simp only at h79 hds e0 e2 e5 e6 e71
    subst hds
    (try dsimp only [Exit.then])
    rw [frame79 tF [] h79, e0, e2, e5, e6, e71]
    clear h79 e0 e2 e5 e6 e71
    have hb9 := hbV.trans (hbW9.mono hbV.size)
    have hq2 := below_push hb9 HQ.out.2.2.1
    have hq5 := below_push hbW9 hq5V
    have hbw9 := HQ.out.2.2.2.trans (hb9.mono HQ.out.2.2.2.size)
    have hB25 : B2 ≠ B5 := by have h := HQ.out.2.2.1; have := lt_of_block h; omega
    have hB2w : w.heap.size ≤ B2 := by rw [HB2.out]; exact Nat.le_refl _
    have hB5w : w.heap.size ≤ B5 := Nat.le_trans HQ.out.2.2.2.size hB5
    by_cases hbz : badZ l
    · have hu : unpZ s = part0 := by
        unfold unpZ
        rw [if_neg (by rw [hs]; decide), if_pos (by rw [← HLL.out.1]; exact hbz)]
      have hbt : bd = true := by rw [HBDE.out]; exact decide_eq_true hbz
      rw [hbt]
      go_upto_region 9 with (fail)
      refine wp_region_lit ?_
      refine wpList_value rfl (v := .agg (partC part0)) (w' := W9) (by kernel_rfl) ?_
      refine wpList_store_to rfl 94 _ _ rfl B2 0 (partC part0) (by kernel_rfl) (by kernel_rfl) (there_of_arr hq2 (Nat.le_refl 5)) row_part.2 (part_one _) _ rfl ?_
      refine wpList_nil ?_
      apply_assumption
      refine wp_ret ?_
      show bodyPost Tryz.prog Tryz.f49 (fun e w' => e = .returned (.agg (partC (unpZ s))) ∧ Below w.heap.size w w') Exit.ret _ _
      refine bodyPost_ret (P := Tryz.prog) (fn := Tryz.f49) (results_cell1 rfl _ _ _ (by kernel_rfl) (part_load _ B2 part0 _ (part_set hq2 rfl _))) (by kernel_rfl) ?_
      exact ⟨by rw [hu], below_setCells B2 hB2w _ _ _ hbw9⟩
    · have hu : unpZ s = ⟨zn, zp, zl, s.extract 8 (8 + n), true⟩ := by
        unfold unpZ
        rw [if_neg (by rw [hs]; decide), if_neg (by rw [← HLL.out.1]; exact hbz), HN.out, HZ.out.1, HZ.out.2.1, HZ.out.2.2]
      have hbt : bd = false := by rw [HBDE.out]; exact decide_eq_false hbz
      rw [hbt]
      obtain ⟨-, -, -, c3, -⟩ := box5p hq5
      have f3 := box_frozen hq5 3
      have hqn := heap_set hq5 3 (.string (s.extract 8 (8 + n)))
      have hq2n := (Below.heap_setCell W9 ⟨B5, 3, none⟩ (.string (s.extract 8 (8 + n))) B2 hB25).trans hq2
      have hbn := below_set hbw9 ⟨B5, 3, none⟩ (.string (s.extract 8 (8 + n))) hB5w
      have HX := hidep (And.intro hqn (And.intro hq2n hbn))
      have hs1 : 8 + n ≤ s.size := by omega
      have hs2 : ((8 + n : Nat) : Int) ≤ (s.size : Int) := by omega
      have hs3 : (8 : Int) ≤ ((8 + n : Nat) : Int) := by omega
      have hs4 : 8 ≤ 8 + n := by omega
      clear hq5 hq2 hbw9 hqn hq2n hbn
      go_upto_region 11 with (fail)
      obtain ⟨pz, hpz⟩ : ∃ pz : PartZ, pz = ⟨zn, zp, zl, s.extract 8 (8 + n), true⟩ := ⟨_, rfl⟩
      have hq5n : (W9.setCell ⟨B5, 3, none⟩ (.string (s.extract 8 (8 + n)))).heap[B5]? = some (.cells (partC pz) 94) := by rw [hpz]; exact HX.out.1
      have hrgn := range_of_arr (cs := (partC pz).toList) (by simpa using hq5n)
      refine wp_region_lit ?_
      refine wpList_load_mid rfl 94 _ rfl B5 0 (by kernel_rfl) (partC pz).toList _ hrgn row_part.1.choose_spec.1 row_part.1.choose_spec.2 row_part.2 ?_
      refine wpList_store_to rfl 94 _ _ rfl B2 0 (partC pz) (by kernel_rfl) (by kernel_rfl) (there_of_arr HX.out.2.1 (Nat.le_refl 5)) row_part.2 (part_one _) _ rfl ?_
      refine wpList_nil ?_
      apply_assumption
      refine wp_ret ?_
      show bodyPost Tryz.prog Tryz.f49 (fun e w' => e = .returned (.agg (partC (unpZ s))) ∧ Below w.heap.size w w') Exit.ret _ _
      refine bodyPost_ret (P := Tryz.prog) (fn := Tryz.f49) (results_cell1 rfl _ _ _ (by kernel_rfl) (part_load _ B2 pz _ (part_set HX.out.2.1 rfl _))) (by kernel_rfl) ?_
      exact ⟨by rw [hu, hpz], below_setCells B2 hB2w _ _ _ HX.out.2.2⟩
  · have hsi : ¬ (s.size : Int) = 64 := by omega
    have hz : unpZ s = part0 := by unfold unpZ; rw [if_pos hs]
    rw [hz]
    go_enter Tryz.func49, Tryz.ntmps49
    go_wp2
    exact bodyPost_ret (results_cell1 rfl _ _ _ rfl (part_load _ w.heap.size part0 _ (heap_alloc_new _ _))) rfl ⟨rfl, (Below.refl _ _).alloc (Nat.le_refl _) _⟩
end Go.Proofs.YtipbkdlekanlmaaGreatDoor
