/- Journal: the reference's Unpack. -/
import Derived.Test.YtipbkdlekanlmaaGreatDoorZr15
namespace Go.Proofs.YtipbkdlekanlmaaGreatDoor
open Go.RowKit Go.Lab Go.Jn Go.Disk
attribute [local go_sem] Oper.semAt_some
set_option maxRecDepth 100000
theorem range_map77 (f : Nat → Value) : (List.range 77).map f = [f 0, f 1, f 2, f 3, f 4, f 5, f 6, f 7, f 8, f 9, f 10, f 11, f 12, f 13, f 14, f 15, f 16, f 17, f 18, f 19, f 20, f 21, f 22, f 23, f 24, f 25, f 26, f 27, f 28, f 29, f 30, f 31, f 32, f 33, f 34, f 35, f 36, f 37, f 38, f 39, f 40, f 41, f 42, f 43, f 44, f 45, f 46, f 47, f 48, f 49, f 50, f 51, f 52, f 53, f 54, f 55, f 56, f 57, f 58, f 59, f 60, f 61, f 62, f 63, f 64, f 65, f 66, f 67, f 68, f 69, f 70, f 71, f 72, f 73, f 74, f 75, f 76] := rfl
theorem frame77 (t : Array Value) (ds : List Deferred) (h : t.size = 77) : ({ tmps := t, defers := ds } : Act) = { tmps := #[slot t 0, slot t 1, slot t 2, slot t 3, slot t 4, slot t 5, slot t 6, slot t 7, slot t 8, slot t 9, slot t 10, slot t 11, slot t 12, slot t 13, slot t 14, slot t 15, slot t 16, slot t 17, slot t 18, slot t 19, slot t 20, slot t 21, slot t 22, slot t 23, slot t 24, slot t 25, slot t 26, slot t 27, slot t 28, slot t 29, slot t 30, slot t 31, slot t 32, slot t 33, slot t 34, slot t 35, slot t 36, slot t 37, slot t 38, slot t 39, slot t 40, slot t 41, slot t 42, slot t 43, slot t 44, slot t 45, slot t 46, slot t 47, slot t 48, slot t 49, slot t 50, slot t 51, slot t 52, slot t 53, slot t 54, slot t 55, slot t 56, slot t 57, slot t 58, slot t 59, slot t 60, slot t 61, slot t 62, slot t 63, slot t 64, slot t 65, slot t 66, slot t 67, slot t 68, slot t 69, slot t 70, slot t 71, slot t 72, slot t 73, slot t 74, slot t 75, slot t 76], defers := ds } := by
  have e : t = ((List.range 77).map (slot t)).toArray := by
    apply Array.ext
    · simp [h]
    · intro i h1 h2
      simp [slot, Array.getD, h1]
  rw [range_map77] at e
  exact congrArg (fun x => ({ tmps := x, defers := ds } : Act)) e
theorem row_partR : (∃ d, Tryz.prog.underlying 102 = some d ∧ d.isRow = true) ∧ (Tryz.prog.info? 102).map (·.size) = some 5 := ⟨under_row (by kernel_rfl), by kernel_rfl⟩
theorem partR_load (W : World) (B : Nat) (p : PartZ) (fz : Nat × Nat) (h : W.heap[B]? = some (.cells (partC p) 102 fz)) : (loadVar 102 ⟨B, 0, none⟩).run Tryz.prog W = .ok (.agg (partC p)) W :=
  run_loadVar_mid (P := Tryz.prog) W B 0 102 (partC p).toList _ (range_of_arr (by simpa using h)) row_partR.1.choose_spec.1 row_partR.1.choose_spec.2 row_partR.2
theorem partR_set {W : World} {g : Nat} {C : Array Value} (h : W.heap[g]? = some (.cells C 102)) (hC : C.size = 5) (p : PartZ) : (W.setCells g 0 (partC p).toList).heap[g]? = some (.cells (partC p) 102) := by
  have h' : W.heap[g]? = some (.cells C.toList.toArray 102) := by simpa using h
  rw [heap_setCells (partC p).toList 0 W C.toList h' (by rw [Array.length_toList, Array.length_toList, hC]; exact Nat.le_refl 5)]
  rw [List.take_zero, List.nil_append, List.drop_eq_nil_of_le (by rw [Array.length_toList, Array.length_toList, hC]; exact Nat.le_refl 5), List.append_nil]
def PartRM (Z : World) (s : ByteArray) (B2 : Nat) (p : PartZ) (a : Act) (W : World) : Prop :=
  a.tmps.size = 77 ∧ a.defers = [] ∧ slot a.tmps 0 = .string s ∧ slot a.tmps 2 = .pointer (some ⟨B2, 0, none⟩) ∧ Below Z.heap.size Z W ∧
    ∃ B3, slot a.tmps 3 = .pointer (some ⟨B3, 0, none⟩) ∧ Z.heap.size ≤ B3 ∧ W.heap[B3]? = some (.cells (partC p) 102)
theorem str_slice_lh {P : Program} {t : TypeId} (h : P.underlying t = some .string) (s : ByteArray) (l m : Nat) (hl : l ≤ m) (hm : m ≤ s.size) (w : World) :
    (Instr.slice t (.string s) (some (.int .i64 (l : Int))) (some (.int .i64 (m : Int))) none).run P w = .ok (.string (s.extract l m)) w := by
  have h2 : 0 ≤ (m : Int) := by omega
  have h3 : 0 ≤ (l : Int) := by omega
  have h4 : (l : Int) ≤ (m : Int) := by omega
  simp [Instr.slice, run_underlying h, Instr.sliceBounds, Instr.sliceBound, asIntOf, hm, hl, h2, h3, Result.andThen]
theorem str_slice_to {P : Program} {t : TypeId} (h : P.underlying t = some .string) (s : ByteArray) (m : Nat) (hm : m ≤ s.size) (w : World) :
    (Instr.slice t (.string s) none (some (.int .i64 (m : Int))) none).run P w = .ok (.string (s.extract 0 m)) w := by
  have h2 : 0 ≤ (m : Int) := by omega
  simp [Instr.slice, run_underlying h, Instr.sliceBounds, Instr.sliceBound, asIntOf, hm, h2, Result.andThen]
/-- '[]byte(s)' as bytes that are read. -/
theorem bytes_newR (w : World) (s : ByteArray) (h1 : s.size ≤ 1000) : ∃ c w', (convert 9 81 (.string s)).run Tryz.prog w = .ok (.slice (some ⟨w.heap.size, 0, none⟩) s.size c) w' ∧ Below w.heap.size w w' ∧ BytR w' (.slice (some ⟨w.heap.size, 0, none⟩) s.size c) (nums s) := by
  refine ⟨_, _, run_bytes_of_string w 9 81 5 s (by kernel_rfl) (by kernel_rfl) (by kernel_rfl), (Below.refl _ _).drew.alloc (Nat.le_refl _) _, ⟨?_, nums_rng s⟩⟩
  rw [nums_len]
  refine ⟨by rw [byC_length, nums_len]; omega, some ⟨w.heap.size, 0, none⟩, _, rfl, grownCap_ge _ _ _ _, grownCap_le_maxLen _ _ _ _ (by unfold maxLen; omega), (fun e => by cases e), fun ad e _ => ?_⟩
  injection e with e
  subst e
  have hq : ∀ o : Obj, (w.drew.alloc o).heap[w.heap.size]? = some o := fun o => by show (w.heap.push o)[w.heap.size]? = _; simp
  refine ⟨rfl, _, _, _, trivial, hq _, fun j u hu => ?_⟩
  have hj : j < s.size := by
    rcases Nat.lt_or_ge j s.size with h | h
    · exact h
    · rw [List.getElem?_eq_none (by rw [byC_length, nums_len]; exact h)] at hu; cases hu
  rw [Nat.zero_add, bytesRow_at s _ j hj]
  rw [byC_get (nums s) j (by rw [nums_len]; exact hj)] at hu
  rw [← hu]
  congr 2
  exact (str_at s j hj)
/-- What holds behind the first checks. -/
def UnpRM (V : World) (s : ByteArray) (B2 B3 : Nat) (b4 : Bool) (a : Act) (W : World) : Prop :=
  a.tmps.size = 77 ∧ a.defers = [] ∧ slot a.tmps 0 = .string s ∧ slot a.tmps 2 = .pointer (some ⟨B2, 0, none⟩) ∧ slot a.tmps 3 = .pointer (some ⟨B3, 0, none⟩) ∧ slot a.tmps 54 = .bool b4 ∧ Below V.heap.size V W
def UnpRM2 (V : World) (s : ByteArray) (B2 B3 n : Nat) (a : Act) (W : World) : Prop :=
  a.tmps.size = 77 ∧ a.defers = [] ∧ slot a.tmps 0 = .string s ∧ slot a.tmps 2 = .pointer (some ⟨B2, 0, none⟩) ∧ slot a.tmps 3 = .pointer (some ⟨B3, 0, none⟩) ∧ slot a.tmps 4 = .int .i64 (n : Int) ∧ W = V
def ZerI (l : List Int) (n : Nat) (W : World) (v : Value) (wr : World) : Prop := ∃ i : Nat, i ≤ 48 - n ∧ v = .int .i64 ((8 + n + i : Nat) : Int) ∧ (∀ j, 8 + n ≤ j → j < 8 + n + i → getU l j = 0) ∧ wr = W
set_option maxHeartbeats 8000000 in
theorem unpackR_any (s : ByteArray) (w : World) (hk : w.rangeAt 0 0 (u32C ks0)) : Calls Tryz.prog 54 #[.string s] w fun e w' => e = .returned (.agg (partC (unpZ s))) ∧ Below w.heap.size w w' := by
  by_cases hs : s.size = 64
  · have hsi : ¬ ¬ (s.size : Int) = 64 := by omega
    go_enter Tryz.func54, Tryz.ntmps54
    go_upto_region 3 with (fail)
    refine wp_abs (fun X => X.heap[w.heap.size]? = some (.cells (partC part0) 102) ∧ Below w.heap.size w X) ⟨heap_alloc_new _ _, (Below.refl _ _).alloc (Nat.le_refl _) _⟩ ?_
    rintro Z ⟨hq2, hbZ⟩
    obtain ⟨B2, hB2⟩ : ∃ B, B = w.heap.size := ⟨_, rfl⟩
    rw [← hB2] at hq2
    refine wp_cutA 77 (fun tm ds => ds = [] ∧ slot tm 0 = .string s ∧ slot tm 2 = .pointer (some ⟨B2, 0, none⟩)) (by kernel_rfl) (by exact ⟨by kernel_rfl, by kernel_rfl, by rw [hB2]; kernel_rfl⟩) ?_
    rintro tA dA h77 ⟨rfl, e0, e2⟩
    rw [frame77 tA [] h77, e0, e2]
    have HB2 := hidep hB2
    clear h77 e0 e2 hB2
    have hk0 := Below.refl Z.heap.size Z
    have hsx : ∀ (o m : Nat), o + m ≤ 64 → m ≤ 4 → ∀ W, Calls Tryz.prog 79 #[.string (s.extract o (o + m))] W fun e w' => e = .returned (.int .i64 (getN (((nums s).drop o).take m))) ∧ w' = W := fun o m h1 h2 W => by
      have h := numR_any (s.extract o (o + m)) W (by rw [ByteArray.size_extract]; omega)
      rw [nums_extract, show o + m - o = m from by omega] at h
      exact h
    obtain ⟨zn, hzn⟩ : ∃ x, x = numZ (nums s) := ⟨_, rfl⟩
    obtain ⟨zp, hzp⟩ : ∃ x, x = partNo (nums s) := ⟨_, rfl⟩
    obtain ⟨zl, hzl⟩ : ∃ x, x = leftZ (nums s) := ⟨_, rfl⟩
    have hG12 := hsx 0 4 (by omega) (by omega)
    have hG15 := hsx 4 2 (by omega) (by omega)
    have hG18 := hsx 6 2 (by omega) (by omega)
    rw [List.drop_zero, show getN ((nums s).take 4) = zn from hzn.symm] at hG12
    rw [show getN (((nums s).drop 4).take 2) = zp from hzp.symm] at hG15
    rw [show getN (((nums s).drop 6).take 2) = zl from hzl.symm] at hG18
    have HG12 := hidep hG12
    have HG15 := hidep hG15
    have HG18 := hidep hG18
    have HZ := hidep (And.intro hzn (And.intro hzp hzl))
    have hss4 := fun W => str_slice_to (P := Tryz.prog) (t := 9) (by kernel_rfl) s 4 (by omega) W
    have hss46 := fun W => str_slice_lh (P := Tryz.prog) (t := 9) (by kernel_rfl) s 4 6 (by omega) (by omega) W
    have hss68 := fun W => str_slice_lh (P := Tryz.prog) (t := 9) (by kernel_rfl) s 6 8 (by omega) (by omega) W
    clear hsx hG12 hG15 hG18 hzn hzp hzl
    refine wp_join (PartRM Z s B2 ⟨zn, zp, zl, ByteArray.empty, true⟩) ?parts ?_
    case parts =>
      intro K' hMK
      refine wp_region_noPanic (wp_region_held_drew (S := (fun Y => Below Z.heap.size Z Y)) (by kernel_rfl) ?hS54r3n0 (fun hHeld => ?hR54r3n0))
      case hS54r3n0 => ((try dsimp only); (exact hk0.drew))
      refine wpAnyH_take (i := 0) (v := ?v54r3n0q1) rfl (by kernel_rfl) (by kernel_rfl) (by kernel_rfl) (fun _ _ _ h => h) (Or.inl ⟨by kernel_rfl, ?hy54r3n0q1⟩) (by assumption) ?hr54r3n0q1
      case hy54r3n0q1 => (intro w hSw; (try dsimp only at hSw); skip; first | (go_simp; done) | (go_simp; with_reducible rfl))
      refine wpAnyH_take (i := 1) (v := ?v54r3n0q2) rfl (by kernel_rfl) (by kernel_rfl) (by kernel_rfl) (fun _ _ _ h => h) (Or.inl ⟨by kernel_rfl, ?hy54r3n0q2⟩) (by assumption) ?hr54r3n0q2
      case hy54r3n0q2 => (intro w hSw; (try dsimp only at hSw); skip; first | (go_simp; done) | (go_simp; with_reducible rfl))
      refine wpAnyH_take (i := 3) (v := ?v54r3n0q3) rfl (by kernel_rfl) (by kernel_rfl) (by kernel_rfl) (fun _ _ _ h => h) (Or.inl ⟨by kernel_rfl, ?hy54r3n0q3⟩) (by assumption) ?hr54r3n0q3
      case hy54r3n0q3 => (intro w hSw; (try dsimp only at hSw); skip; first | (go_simp; done) | (go_simp; with_reducible rfl))
      refine wpAnyH_take (i := 4) (v := ?v54r3n0q4) rfl (by kernel_rfl) (by kernel_rfl) (by kernel_rfl) (fun _ _ _ h => h) (Or.inl ⟨by kernel_rfl, ?hy54r3n0q4⟩) (by assumption) ?hr54r3n0q4
      case hy54r3n0q4 => (intro w hSw; (try dsimp only at hSw); skip; first | (go_simp; done) | (go_simp; with_reducible rfl))
      refine wpAnyH_take (i := 6) (v := ?v54r3n0q5) rfl (by kernel_rfl) (by kernel_rfl) (by kernel_rfl) (fun _ _ _ h => h) (Or.inl ⟨by kernel_rfl, ?hy54r3n0q5⟩) (by assumption) ?hr54r3n0q5
      case hy54r3n0q5 => (intro w hSw; (try dsimp only at hSw); skip; first | (go_simp; done) | (go_simp; with_reducible rfl))
      refine wpAnyH_take (i := 7) (v := ?v54r3n0q6) rfl (by kernel_rfl) (by kernel_rfl) (by kernel_rfl) (fun _ _ _ h => h) (Or.inl ⟨by kernel_rfl, ?hy54r3n0q6⟩) (by assumption) ?hr54r3n0q6
      case hy54r3n0q6 => (intro w hSw; (try dsimp only at hSw); skip; first | (go_simp; done) | (go_simp; with_reducible rfl))
      refine wpAnyH_ready (rs := [2, 10]) (by kernel_rfl) (by simp) (AllReadyH.cons rfl (fun K hK => ?hc54r3n0q7) (AllReadyH.cons rfl (fun K hK => ?hc54r3n0q8) AllReadyH.nil))
      case' hc54r3n0q7 =>
        go_simp
        (go_at_call 79; refine (HG12.out _).mono ?_; rintro e w19 ⟨rfl, rfl⟩; (try dsimp only))
        refine hK.out _ _ ?hs54r3n0q7 (fun hHeld54r3n0q7 => ?ht54r3n0q7)
        case hs54r3n0q7 => ((try dsimp only); (first | (with_reducible exact hHeld) | exact hk | exact hk.drew))
        clear hHeld hK
        have hHeld := hHeld54r3n0q7
        clear hHeld54r3n0q7
        refine wpAnyH_ready (rs := [5, 10]) (by kernel_rfl) (by simp) (AllReadyH.cons rfl (fun K hK => ?hc54r3n0q9) (AllReadyH.cons rfl (fun K hK => ?hc54r3n0q10) AllReadyH.nil))
        case' hc54r3n0q9 =>
          go_simp
          (go_at_call 79; refine (HG15.out _).mono ?_; rintro e w21 ⟨rfl, rfl⟩; (try dsimp only))
          refine hK.out _ _ ?hs54r3n0q9 (fun hHeld54r3n0q9 => ?ht54r3n0q9)
          case hs54r3n0q9 => ((try dsimp only); (first | (with_reducible exact hHeld) | exact hk | exact hk.drew))
          clear hHeld hK
          have hHeld := hHeld54r3n0q9
          clear hHeld54r3n0q9
          refine wpAnyH_ready (rs := [8, 10]) (by kernel_rfl) (by simp) (AllReadyH.cons rfl (fun K hK => ?hc54r3n0q11) (AllReadyH.cons rfl (fun K hK => ?hc54r3n0q12) AllReadyH.nil))
          case' hc54r3n0q11 =>
            go_simp
            (go_at_call 79; refine (HG18.out _).mono ?_; rintro e w23 ⟨rfl, rfl⟩; (try dsimp only))
            refine hK.out _ _ ?hs54r3n0q11 (fun hHeld54r3n0q11 => ?ht54r3n0q11)
            case hs54r3n0q11 => ((try dsimp only); (first | (with_reducible exact hHeld) | exact hk | exact hk.drew))
            clear hHeld hK
            have hHeld := hHeld54r3n0q11
            clear hHeld54r3n0q11
            refine wpAnyH_take (i := 9) (v := ?v54r3n0q13) rfl (by kernel_rfl) (by kernel_rfl) (by kernel_rfl) (fun _ _ _ h => h) (Or.inl ⟨by kernel_rfl, ?hy54r3n0q13⟩) (by assumption) ?hr54r3n0q13
            case hy54r3n0q13 => (intro w hSw; (try dsimp only at hSw); skip; first | (go_simp; done) | (go_simp; with_reducible rfl))
            refine wpAnyH_ready (rs := [10]) (by kernel_rfl) (by simp) (AllReadyH.cons rfl (fun K hK => ?hc54r3n0q14) AllReadyH.nil)
            go_simp
            ((first | refine intro_alloc (fun X5 hBX hL5 => ?_) | refine intro_alloc_drew (fun X5 hBX hL5 => ?_)); have hg5 := hHeld.size; have hk := below_step (by first | exact hHeld | exact lower_drew hHeld) hBX; (try dsimp only))
            refine hK.out _ _ ?hs54r3n0q14 (fun hHeld54r3n0q14 => ?ht54r3n0q14)
            case hs54r3n0q14 => ((try dsimp only); (first | (with_reducible exact hHeld) | exact hk | exact hk.drew))
            clear hHeld hK
            have hHeld := hHeld54r3n0q14
            clear hHeld54r3n0q14
            refine wpAnyH_ready (rs := [11]) (by kernel_rfl) (by simp) (AllReadyH.cons rfl (fun K hK => ?hc54r3n0q15) AllReadyH.nil)
            (refine step_store_mid rfl 102 _ _ rfl _ 0 (partC ⟨zn, zp, zl, ByteArray.empty, true⟩) rfl rfl (there_of_arr hL5 (Nat.le_refl 5)) row_partR.2 (part_one _) _ rfl ?_; have hk := below_setCells _ hg5 (partC ⟨zn, zp, zl, ByteArray.empty, true⟩).toList 0 _ hk)
            refine hK.out _ _ ?hs54r3n0q15 (fun hHeld54r3n0q15 => ?ht54r3n0q15)
            case hs54r3n0q15 => ((try dsimp only); (first | (with_reducible exact hHeld) | exact hk | exact hk.drew))
            clear hHeld hK
            have hHeld := hHeld54r3n0q15
            clear hHeld54r3n0q15
            refine wpAnyH_done (by kernel_rfl) ?_ _
            clear hHeld
            refine NoPanic.normal ?_
          case' hc54r3n0q12 =>
            go_simp
            ((first | refine intro_alloc (fun X5 hBX hL5 => ?_) | refine intro_alloc_drew (fun X5 hBX hL5 => ?_)); have hg5 := hHeld.size; have hk := below_step (by first | exact hHeld | exact lower_drew hHeld) hBX; (try dsimp only))
            refine hK.out _ _ ?hs54r3n0q12 (fun hHeld54r3n0q12 => ?ht54r3n0q12)
            case hs54r3n0q12 => ((try dsimp only); (first | (with_reducible exact hHeld) | exact hk | exact hk.drew))
            clear hHeld hK
            have hHeld := hHeld54r3n0q12
            clear hHeld54r3n0q12
            refine wpAnyH_ready (rs := [8]) (by kernel_rfl) (by simp) (AllReadyH.cons rfl (fun K hK => ?hc54r3n0q16) AllReadyH.nil)
            go_simp
            (go_at_call 79; refine (HG18.out _).mono ?_; rintro e w23 ⟨rfl, rfl⟩; (try dsimp only))
            refine hK.out _ _ ?hs54r3n0q16 (fun hHeld54r3n0q16 => ?ht54r3n0q16)
            case hs54r3n0q16 => ((try dsimp only); (first | (with_reducible exact hHeld) | exact hk | exact hk.drew))
            clear hHeld hK
            have hHeld := hHeld54r3n0q16
            clear hHeld54r3n0q16
            refine wpAnyH_take (i := 9) (v := ?v54r3n0q17) rfl (by kernel_rfl) (by kernel_rfl) (by kernel_rfl) (fun _ _ _ h => h) (Or.inl ⟨by kernel_rfl, ?hy54r3n0q17⟩) (by assumption) ?hr54r3n0q17
            case hy54r3n0q17 => (intro w hSw; (try dsimp only at hSw); skip; first | (go_simp; done) | (go_simp; with_reducible rfl))
            refine wpAnyH_ready (rs := [11]) (by kernel_rfl) (by simp) (AllReadyH.cons rfl (fun K hK => ?hc54r3n0q18) AllReadyH.nil)
            (refine step_store_mid rfl 102 _ _ rfl _ 0 (partC ⟨zn, zp, zl, ByteArray.empty, true⟩) rfl rfl (there_of_arr hL5 (Nat.le_refl 5)) row_partR.2 (part_one _) _ rfl ?_; have hk := below_setCells _ hg5 (partC ⟨zn, zp, zl, ByteArray.empty, true⟩).toList 0 _ hk)
            refine hK.out _ _ ?hs54r3n0q18 (fun hHeld54r3n0q18 => ?ht54r3n0q18)
            case hs54r3n0q18 => ((try dsimp only); (first | (with_reducible exact hHeld) | exact hk | exact hk.drew))
            clear hHeld hK
            have hHeld := hHeld54r3n0q18
            clear hHeld54r3n0q18
            refine wpAnyH_done (by kernel_rfl) ?_ _
            clear hHeld
            refine NoPanic.normal ?_
        case' hc54r3n0q10 =>
          go_simp
          ((first | refine intro_alloc (fun X5 hBX hL5 => ?_) | refine intro_alloc_drew (fun X5 hBX hL5 => ?_)); have hg5 := hHeld.size; have hk := below_step (by first | exact hHeld | exact lower_drew hHeld) hBX; (try dsimp only))
          refine hK.out _ _ ?hs54r3n0q10 (fun hHeld54r3n0q10 => ?ht54r3n0q10)
          case hs54r3n0q10 => ((try dsimp only); (first | (with_reducible exact hHeld) | exact hk | exact hk.drew))
          clear hHeld hK
          have hHeld := hHeld54r3n0q10
          clear hHeld54r3n0q10
          refine wpAnyH_ready (rs := [5]) (by kernel_rfl) (by simp) (AllReadyH.cons rfl (fun K hK => ?hc54r3n0q19) AllReadyH.nil)
          go_simp
          (go_at_call 79; refine (HG15.out _).mono ?_; rintro e w21 ⟨rfl, rfl⟩; (try dsimp only))
          refine hK.out _ _ ?hs54r3n0q19 (fun hHeld54r3n0q19 => ?ht54r3n0q19)
          case hs54r3n0q19 => ((try dsimp only); (first | (with_reducible exact hHeld) | exact hk | exact hk.drew))
          clear hHeld hK
          have hHeld := hHeld54r3n0q19
          clear hHeld54r3n0q19
          refine wpAnyH_ready (rs := [8]) (by kernel_rfl) (by simp) (AllReadyH.cons rfl (fun K hK => ?hc54r3n0q20) AllReadyH.nil)
          go_simp
          (go_at_call 79; refine (HG18.out _).mono ?_; rintro e w23 ⟨rfl, rfl⟩; (try dsimp only))
          refine hK.out _ _ ?hs54r3n0q20 (fun hHeld54r3n0q20 => ?ht54r3n0q20)
          case hs54r3n0q20 => ((try dsimp only); (first | (with_reducible exact hHeld) | exact hk | exact hk.drew))
          clear hHeld hK
          have hHeld := hHeld54r3n0q20
          clear hHeld54r3n0q20
          refine wpAnyH_take (i := 9) (v := ?v54r3n0q21) rfl (by kernel_rfl) (by kernel_rfl) (by kernel_rfl) (fun _ _ _ h => h) (Or.inl ⟨by kernel_rfl, ?hy54r3n0q21⟩) (by assumption) ?hr54r3n0q21
          case hy54r3n0q21 => (intro w hSw; (try dsimp only at hSw); skip; first | (go_simp; done) | (go_simp; with_reducible rfl))
          refine wpAnyH_ready (rs := [11]) (by kernel_rfl) (by simp) (AllReadyH.cons rfl (fun K hK => ?hc54r3n0q22) AllReadyH.nil)
          (refine step_store_mid rfl 102 _ _ rfl _ 0 (partC ⟨zn, zp, zl, ByteArray.empty, true⟩) rfl rfl (there_of_arr hL5 (Nat.le_refl 5)) row_partR.2 (part_one _) _ rfl ?_; have hk := below_setCells _ hg5 (partC ⟨zn, zp, zl, ByteArray.empty, true⟩).toList 0 _ hk)
          refine hK.out _ _ ?hs54r3n0q22 (fun hHeld54r3n0q22 => ?ht54r3n0q22)
          case hs54r3n0q22 => ((try dsimp only); (first | (with_reducible exact hHeld) | exact hk | exact hk.drew))
          clear hHeld hK
          have hHeld := hHeld54r3n0q22
          clear hHeld54r3n0q22
          refine wpAnyH_done (by kernel_rfl) ?_ _
          clear hHeld
          refine NoPanic.normal ?_
      case' hc54r3n0q8 =>
        go_simp
        ((first | refine intro_alloc (fun X5 hBX hL5 => ?_) | refine intro_alloc_drew (fun X5 hBX hL5 => ?_)); have hg5 := hHeld.size; have hk := below_step (by first | exact hHeld | exact lower_drew hHeld) hBX; (try dsimp only))
        refine hK.out _ _ ?hs54r3n0q8 (fun hHeld54r3n0q8 => ?ht54r3n0q8)
        case hs54r3n0q8 => ((try dsimp only); (first | (with_reducible exact hHeld) | exact hk | exact hk.drew))
        clear hHeld hK
        have hHeld := hHeld54r3n0q8
        clear hHeld54r3n0q8
        refine wpAnyH_ready (rs := [2]) (by kernel_rfl) (by simp) (AllReadyH.cons rfl (fun K hK => ?hc54r3n0q23) AllReadyH.nil)
        go_simp
        (go_at_call 79; refine (HG12.out _).mono ?_; rintro e w19 ⟨rfl, rfl⟩; (try dsimp only))
        refine hK.out _ _ ?hs54r3n0q23 (fun hHeld54r3n0q23 => ?ht54r3n0q23)
        case hs54r3n0q23 => ((try dsimp only); (first | (with_reducible exact hHeld) | exact hk | exact hk.drew))
        clear hHeld hK
        have hHeld := hHeld54r3n0q23
        clear hHeld54r3n0q23
        refine wpAnyH_ready (rs := [5]) (by kernel_rfl) (by simp) (AllReadyH.cons rfl (fun K hK => ?hc54r3n0q24) AllReadyH.nil)
        go_simp
        (go_at_call 79; refine (HG15.out _).mono ?_; rintro e w21 ⟨rfl, rfl⟩; (try dsimp only))
        refine hK.out _ _ ?hs54r3n0q24 (fun hHeld54r3n0q24 => ?ht54r3n0q24)
        case hs54r3n0q24 => ((try dsimp only); (first | (with_reducible exact hHeld) | exact hk | exact hk.drew))
        clear hHeld hK
        have hHeld := hHeld54r3n0q24
        clear hHeld54r3n0q24
        refine wpAnyH_ready (rs := [8]) (by kernel_rfl) (by simp) (AllReadyH.cons rfl (fun K hK => ?hc54r3n0q25) AllReadyH.nil)
        go_simp
        (go_at_call 79; refine (HG18.out _).mono ?_; rintro e w23 ⟨rfl, rfl⟩; (try dsimp only))
        refine hK.out _ _ ?hs54r3n0q25 (fun hHeld54r3n0q25 => ?ht54r3n0q25)
        case hs54r3n0q25 => ((try dsimp only); (first | (with_reducible exact hHeld) | exact hk | exact hk.drew))
        clear hHeld hK
        have hHeld := hHeld54r3n0q25
        clear hHeld54r3n0q25
        refine wpAnyH_take (i := 9) (v := ?v54r3n0q26) rfl (by kernel_rfl) (by kernel_rfl) (by kernel_rfl) (fun _ _ _ h => h) (Or.inl ⟨by kernel_rfl, ?hy54r3n0q26⟩) (by assumption) ?hr54r3n0q26
        case hy54r3n0q26 => (intro w hSw; (try dsimp only at hSw); skip; first | (go_simp; done) | (go_simp; with_reducible rfl))
        refine wpAnyH_ready (rs := [11]) (by kernel_rfl) (by simp) (AllReadyH.cons rfl (fun K hK => ?hc54r3n0q27) AllReadyH.nil)
        (refine step_store_mid rfl 102 _ _ rfl _ 0 (partC ⟨zn, zp, zl, ByteArray.empty, true⟩) rfl rfl (there_of_arr hL5 (Nat.le_refl 5)) row_partR.2 (part_one _) _ rfl ?_; have hk := below_setCells _ hg5 (partC ⟨zn, zp, zl, ByteArray.empty, true⟩).toList 0 _ hk)
        refine hK.out _ _ ?hs54r3n0q27 (fun hHeld54r3n0q27 => ?ht54r3n0q27)
        case hs54r3n0q27 => ((try dsimp only); (first | (with_reducible exact hHeld) | exact hk | exact hk.drew))
        clear hHeld hK
        have hHeld := hHeld54r3n0q27
        clear hHeld54r3n0q27
        refine wpAnyH_done (by kernel_rfl) ?_ _
        clear hHeld
        refine NoPanic.normal ?_
      all_goals
        (try dsimp only [Exit.inBlock, Exit.then])
        exact hMK _ _ ⟨by kernel_rfl, by kernel_rfl, by kernel_rfl, by kernel_rfl, by first | exact hk | exact hk.drew, _, by kernel_rfl, hg5, partR_set hL5 rfl _⟩
    rintro ⟨tD, dD⟩ W ⟨h77, hds, e0, e2, hbW, B3, e3, hB3, hq3⟩
    simp only at h77 hds e0 e2 e3
    subst hds
    apply_assumption
    rw [frame77 tD [] h77, e0, e2, e3]
    clear h77 e0 e2 e3 hk0 hss4 hss46 hss68
    obtain ⟨n, hn⟩ : ∃ n, n = payN (nums s) := ⟨_, rfl⟩
    have hzr : 0 ≤ zl ∧ zl < 65536 := by
      have h := getN_rng (((nums s).drop 6).take 2) (fun x hx => nums_rng s x (List.mem_of_mem_drop (List.mem_of_mem_take hx)))
      have h2 : (((nums s).drop 6).take 2).length = 2 := by rw [List.length_take, List.length_drop, nums_len, hs]; rfl
      rw [h2] at h
      rw [HZ.out.2.2]
      exact h
    have hzrp : 0 ≤ zp ∧ zp < 65536 := by
      have h := getN_rng (((nums s).drop 4).take 2) (fun x hx => nums_rng s x (List.mem_of_mem_drop (List.mem_of_mem_take hx)))
      have h2 : (((nums s).drop 4).take 2).length = 2 := by rw [List.length_take, List.length_drop, nums_len, hs]; rfl
      rw [h2] at h
      rw [HZ.out.2.1]
      exact h
    have hzn0 : 0 ≤ zn := by
      rw [HZ.out.1]
      exact (getN_rng _ (fun x hx => nums_rng s x (List.mem_of_mem_take hx))).1
    have hn48 : n ≤ 48 ∧ (n : Int) = min zl 48 := by
      have : n = (min zl 48).toNat := by rw [hn, HZ.out.2.2]; rfl
      omega
    have HN := hidep hn
    clear hn
    have hpc := box5p hq3
    obtain ⟨c, W2, hcv, hb2, hbt⟩ := bytes_newR W (s.extract 0 56) (by rw [ByteArray.size_extract]; omega)
    have hs56 : (s.extract 0 56).size = 56 := by rw [ByteArray.size_extract, hs]; rfl
    have hn56 : nums (s.extract 0 56) = (nums s).take 56 := by rw [nums_extract, List.drop_zero]
    rw [hs56] at hcv hbt
    rw [hn56] at hbt
    have hbw2 : Below w.heap.size w W2 := (hbZ.trans (hbW.mono hbZ.size)).trans (hb2.mono (Nat.le_trans hbZ.size hbW.size))
    have HCK := hidep (checkedR_any _ _ W2 hbt (by rw [List.length_take, nums_len, hs]; rfl) (hk.below hbw2))
    obtain ⟨T3, hT3⟩ : ∃ T, T = strOfNums (sealB ((nums s).take 56)) := ⟨_, rfl⟩
    rw [← hT3] at HCK
    obtain ⟨b4, hb4⟩ : ∃ b4, b4 = decide (¬ T3 = s ∨ zn < 1 ∨ zn > 4096 ∨ 48 * zp + zl > 8000 ∨ (zl < 1 ∧ zp > 0)) := ⟨_, rfl⟩
    have HBAD := hidep (show ((¬ T3 = s ∨ zn < 1 ∨ zn > 4096 ∨ 48 * zp + zl > 8000 ∨ (zl < 1 ∧ zp > 0)) → b4 = true) ∧ (T3 = s → ¬ zn < 1 → ¬ zn > 4096 → ¬ 48 * zp + zl > 8000 → ¬ (zl < 1 ∧ zp > 0) → b4 = false) from by
      rw [hb4]
      constructor
      · exact fun h => decide_eq_true h
      · intro h1 h2 h3 h4 h5
        refine decide_eq_false (fun h => ?_)
        rcases h with h | h | h | h | h
        · exact h h1
        · exact h2 h
        · exact h3 h
        · exact h4 h
        · exact h5 h)
    have HB4 := hidep hb4
    have HT3 := hidep hT3
    have hCE := hidep (show ∀ Y, Below W2.heap.size W2 Y → Y.cell? ⟨B3, 0, none⟩ = some (.int .i64 zn) ∧ Y.cell? ⟨B3, 1, none⟩ = some (.int .i64 zp) ∧ Y.cell? ⟨B3, 2, none⟩ = some (.int .i64 zl) from fun Y hY => by
      have h := box5p (below_push hY (below_push hb2 hq3))
      exact ⟨h.1, h.2.1, h.2.2.1⟩)
    have hBE := hidep (show ∀ Y, Below W2.heap.size W2 Y → Below W.heap.size W Y from fun Y hY => hb2.trans (hY.mono hb2.size))
    have hss56 := fun W => str_slice_to (P := Tryz.prog) (t := 9) (by kernel_rfl) s 56 (by omega) W
    have hw1 : IntKind.i64.wrap (48 * zp) = 48 * zp := IntWalk.i64_in _ (by omega)
    have hw2 : IntKind.i64.wrap (48 * zp + zl) = 48 * zp + zl := IntWalk.i64_in _ (by omega)
    clear hT3 hb4 hbt hs56 hn56 hzn0 hzr hzrp hn48 hpc
    refine wp_seq ?_
    refine wp_seq ?_
    refine wp_join (UnpRM W s B2 B3 b4) ?chk ?_
    case chk =>
      intro K' hMK
    -- CHECKS
      by_cases p1 : T3 = s
      · have g1 : (T3.toList != s.toList) = false := by rw [bne, str_beq, decide_eq_true p1]; rfl
        have g2 : (T3.toList == s.toList) = true := by rw [str_beq, decide_eq_true p1]
        have g3 : T3.toList = s.toList := by rw [p1]
        by_cases p2 : zn < 1
        · have hbad := hidep (HBAD.out.1 (.inr (.inl p2)))
          clear p1
          go_upto_region 5 with (first
            | (go_at_call 80; refine HCK.out.mono ?_; rintro e w5 ⟨rfl, hb5⟩; have k0 := hCE.out w5 hb5; obtain ⟨c0, c1, c2⟩ := k0)
            | fail)
          exact ⟨by kernel_rfl, by kernel_rfl, by kernel_rfl, by kernel_rfl, by kernel_rfl, (by refine (congrArg Value.bool ?_ : Value.bool _ = Value.bool b4); rw [hbad.out]; all_goals (first | rfl | (simp; done) | (simp; omega) | (simp [*]; done))), hBE.out w5 hb5⟩
        by_cases p3 : zn > 4096
        · have hbad := hidep (HBAD.out.1 (.inr (.inr (.inl p3))))
          clear p1
          go_upto_region 5 with (first
            | (go_at_call 80; refine HCK.out.mono ?_; rintro e w5 ⟨rfl, hb5⟩; have k0 := hCE.out w5 hb5; obtain ⟨c0, c1, c2⟩ := k0)
            | fail)
          exact ⟨by kernel_rfl, by kernel_rfl, by kernel_rfl, by kernel_rfl, by kernel_rfl, (by refine (congrArg Value.bool ?_ : Value.bool _ = Value.bool b4); rw [hbad.out]; all_goals (first | rfl | (simp; done) | (simp; omega) | (simp [*]; done))), hBE.out w5 hb5⟩
        by_cases p4 : 48 * zp + zl > 8000
        · have hbad := hidep (HBAD.out.1 (.inr (.inr (.inr (.inl p4)))))
          clear p1
          go_upto_region 5 with (first
            | (go_at_call 80; refine HCK.out.mono ?_; rintro e w5 ⟨rfl, hb5⟩; have k0 := hCE.out w5 hb5; obtain ⟨c0, c1, c2⟩ := k0)
            | fail)
          exact ⟨by kernel_rfl, by kernel_rfl, by kernel_rfl, by kernel_rfl, by kernel_rfl, (by refine (congrArg Value.bool ?_ : Value.bool _ = Value.bool b4); rw [hbad.out]; all_goals (first | rfl | (simp; done) | (simp; omega) | (simp [*]; done))), hBE.out w5 hb5⟩
        by_cases p5 : zl < 1
        · by_cases p6 : zp > 0
          · have hbad := hidep (HBAD.out.1 (.inr (.inr (.inr (.inr ⟨p5, p6⟩)))))
            clear p1
            go_upto_region 5 with (first
              | (go_at_call 80; refine HCK.out.mono ?_; rintro e w5 ⟨rfl, hb5⟩; have k0 := hCE.out w5 hb5; obtain ⟨c0, c1, c2⟩ := k0)
              | fail)
            exact ⟨by kernel_rfl, by kernel_rfl, by kernel_rfl, by kernel_rfl, by kernel_rfl, (by refine (congrArg Value.bool ?_ : Value.bool _ = Value.bool b4); rw [hbad.out]; all_goals (first | rfl | (simp; done) | (simp; omega) | (simp [*]; done))), hBE.out w5 hb5⟩
          have hB := hidep (HBAD.out.2 p1 p2 p3 p4 (fun h => p6 h.2))
          clear p1
          go_upto_region 5 with (first
            | (go_at_call 80; refine HCK.out.mono ?_; rintro e w5 ⟨rfl, hb5⟩; have k0 := hCE.out w5 hb5; obtain ⟨c0, c1, c2⟩ := k0)
            | fail)
          exact ⟨by kernel_rfl, by kernel_rfl, by kernel_rfl, by kernel_rfl, by kernel_rfl, (by refine (congrArg Value.bool ?_ : Value.bool _ = Value.bool b4); rw [hB.out]; all_goals (first | rfl | (simp; done) | (simp; omega) | (simp [*]; done))), hBE.out w5 hb5⟩
        have hB := hidep (HBAD.out.2 p1 p2 p3 p4 (fun h => p5 h.1))
        clear p1
        go_upto_region 5 with (first
          | (go_at_call 80; refine HCK.out.mono ?_; rintro e w5 ⟨rfl, hb5⟩; have k0 := hCE.out w5 hb5; obtain ⟨c0, c1, c2⟩ := k0)
          | fail)
        exact ⟨by kernel_rfl, by kernel_rfl, by kernel_rfl, by kernel_rfl, by kernel_rfl, (by refine (congrArg Value.bool ?_ : Value.bool _ = Value.bool b4); rw [hB.out]; all_goals (first | rfl | (simp; done) | (simp; omega) | (simp [*]; done))), hBE.out w5 hb5⟩
      · have g1 : (T3.toList != s.toList) = true := by rw [bne, str_beq, decide_eq_false p1]; rfl
        have hbad := hidep (HBAD.out.1 (.inl p1))
        have g2 : (T3.toList == s.toList) = false := by rw [str_beq, decide_eq_false p1]
        have g3 : ¬ T3.toList = s.toList := fun h => by rw [h] at g2; simp at g2
        clear p1
        go_upto_region 5 with (first
          | (go_at_call 80; refine HCK.out.mono ?_; rintro e w5 ⟨rfl, hb5⟩; have k0 := hCE.out w5 hb5; obtain ⟨c0, c1, c2⟩ := k0)
          | fail)
        exact ⟨by kernel_rfl, by kernel_rfl, by kernel_rfl, by kernel_rfl, by kernel_rfl, (by refine (congrArg Value.bool ?_ : Value.bool _ = Value.bool b4); rw [hbad.out]; all_goals (first | rfl | (simp; done) | (simp; omega) | (simp [*]; done))), hBE.out w5 hb5⟩
    -- ENDCHECKS
    rintro ⟨tE, dE⟩ W9 ⟨h77, hds, e0, e2, e3, e54, hbW9⟩
    simp only at h77 hds e0 e2 e3 e54
    subst hds
    (try dsimp only [Exit.then])
    rw [frame77 tE [] h77, e0, e2, e3, e54]
    clear h77 e0 e2 e3 e54 hcv hb2 hss56 hw1 hw2
    have hZ9 := hbW.trans (hbW9.mono hbW.size)
    have hq2 := below_push hZ9 hq2
    have hq3 := below_push hbW9 hq3
    have hbw9 := hbZ.trans (hZ9.mono hbZ.size)
    have hB23 : B2 ≠ B3 := by have := lt_of_block ‹Z.heap[B2]? = _›; omega
    have hB2w : w.heap.size ≤ B2 := by rw [HB2.out]; exact Nat.le_refl _
    have hB3w : w.heap.size ≤ B3 := Nat.le_trans hbZ.size hB3
    obtain ⟨l, hl⟩ : ∃ l, l = nums s := ⟨_, rfl⟩
    have hl64 : l.length = 64 := by rw [hl, nums_len, hs]
    have hsl : s = strOfNums l := by rw [hl, str_nums]
    have k2 : zn = numZ l := by rw [HZ.out.1, hl]
    have k3 : zp = partNo l := by rw [HZ.out.2.1, hl]
    have k4 : zl = leftZ l := by rw [HZ.out.2.2, hl]
    have k5 : n = payN l := by rw [HN.out, hl]
    have hlr : ∀ x ∈ l, 0 ≤ x ∧ x < 256 := by rw [hl]; exact nums_rng s
    have hzn0 : 0 ≤ zn := by rw [k2]; exact (getN_rng _ (fun x hx => hlr x (List.mem_of_mem_take hx))).1
    have hzl0 : 0 ≤ zl ∧ zl < 65536 := by
      have h := getN_rng ((l.drop 6).take 2) (fun x hx => hlr x (List.mem_of_mem_drop (List.mem_of_mem_take hx)))
      have h2 : ((l.drop 6).take 2).length = 2 := by rw [List.length_take, List.length_drop, hl64]; rfl
      rw [h2] at h
      rw [k4]
      exact h
    have hn48 : n ≤ 48 ∧ (n : Int) = min zl 48 := by
      have : n = (min zl 48).toNat := by rw [k5, k4]; rfl
      omega
    have hT : T3 = s ↔ (sha56 (l.take 56)).take 8 = l.drop 56 := by
      rw [HT3.out, ← hl]
      constructor
      · intro h
        have h2 : sealB (l.take 56) = l := by
          have hr : ∀ x ∈ sealB (l.take 56), 0 ≤ x ∧ x < 256 := sealB_rng _ (fun x hx => hlr x (List.mem_of_mem_take hx))
          rw [← nums_str' hr, h, hl]
        have h3 := congrArg (List.drop 56) h2
        unfold sealB at h3
        rw [List.drop_append, List.length_take, hl64, show min 56 64 = 56 from rfl, Nat.sub_self, List.drop_zero, List.drop_eq_nil_of_le (by rw [List.length_take]; omega), List.nil_append] at h3
        exact h3
      · intro h
        unfold sealB
        rw [h, List.take_append_drop, hsl]
    by_cases h4 : (¬ T3 = s ∨ zn < 1 ∨ zn > 4096 ∨ 48 * zp + zl > 8000 ∨ (zl < 1 ∧ zp > 0))
    · have hbz : badZ l := by
        unfold badZ
        rw [← k2, ← k3, ← k4]
        rcases h4 with h | h | h | h | h
        · exact .inl (fun e => h (hT.2 e))
        · exact .inr (.inl (by omega))
        · exact .inr (.inr (.inl h))
        · exact .inr (.inr (.inr (.inl h)))
        · exact .inr (.inr (.inr (.inr (.inl ⟨by omega, h.2⟩))))
      have hu : unpZ s = part0 := by
        unfold unpZ
        rw [if_neg (by rw [hs]; decide), if_pos (by rw [← hl]; exact hbz)]
      have hbt : b4 = true := by rw [HB4.out]; exact decide_eq_true h4
      rw [hbt]
      have HU := hidep hu
      clear hu hl hsl k2 k3 k4 k5 hT h4 hbz hbt
      go_upto_region 5 with (fail)
      refine wp_region_lit ?_
      refine wpList_value rfl (v := .agg (partC part0)) (w' := W9) (by kernel_rfl) ?_
      refine wpList_store_to rfl 102 _ _ rfl B2 0 (partC part0) (by kernel_rfl) (by kernel_rfl) (there_of_arr hq2 (Nat.le_refl 5)) row_partR.2 (part_one _) _ rfl ?_
      refine wpList_nil ?_
      apply_assumption
      refine wp_ret ?_
      show bodyPost Tryz.prog Tryz.f54 (fun e w' => e = .returned (.agg (partC (unpZ s))) ∧ Below w.heap.size w w') Exit.ret _ _
      refine bodyPost_ret (P := Tryz.prog) (fn := Tryz.f54) (results_cell1 rfl _ _ _ (by kernel_rfl) (partR_load _ B2 part0 _ (partR_set hq2 rfl _))) (by kernel_rfl) ?_
      exact ⟨by rw [HU.out], below_setCells B2 hB2w _ _ _ hbw9⟩
    · have hbt : b4 = false := by rw [HB4.out]; exact decide_eq_false h4
      rw [hbt]
      have HL := hidep (And.intro hl (And.intro hl64 (And.intro k2 (And.intro k3 (And.intro k4 (And.intro k5 (And.intro hT (And.intro h4 hn48))))))))
      clear hl hsl k2 k3 k4 k5 hT h4 hbt hl64 hn48
      have hpc := box5p hq3
      go_upto_region 6 with (fail)
      refine wp_region_lit ?_
      refine wpList_value rfl (v := .pointer (some ⟨B3, 2, none⟩)) (w' := W9) (by kernel_rfl) ?_
      refine wpList_value rfl (v := .int .i64 zl) (w' := W9) (by
        have e : ∀ ev : Operand → Value, ev (.tmp 56) = .pointer (some ⟨B3, 2, none⟩) → (execOp ev ⟨some 57, .load 3 (.tmp 56), 3, "", #[], none⟩).run Tryz.prog W9 = .ok (.value (.int .i64 zl)) W9 := fun ev ha => by
          have c2 := hpc.2.2.1
          go_simp
        exact e _ (by kernel_rfl)) ?_
      refine wpList_value rfl (v := .int .i64 zl) (w' := W9) (by kernel_rfl) ?_
      refine wpList_nil ?_
      apply_assumption
      refine wp_cutA 77 (fun tm ds => ds = [] ∧ slot tm 0 = .string s ∧ slot tm 2 = .pointer (some ⟨B2, 0, none⟩) ∧ slot tm 3 = .pointer (some ⟨B3, 0, none⟩) ∧ slot tm 4 = .int .i64 zl) (by kernel_rfl) (by exact ⟨by kernel_rfl, by kernel_rfl, by kernel_rfl, by kernel_rfl, by kernel_rfl⟩) ?_
      rintro tG dG h77 ⟨rfl, e0, e2, e3, e4⟩
      rw [frame77 tG [] h77, e0, e2, e3, e4]
      clear h77 e0 e2 e3 e4
      refine wp_seq ?_
      refine wp_join (UnpRM2 W9 s B2 B3 n) ?cl ?_
      case cl =>
        intro K' hMK
        by_cases hle : zl > 48
        · have hni := hidep (show (n : Int) = 48 from by have := HL.out.2.2.2.2.2.2.2.2.2; omega)
          go_wp2
          exact ⟨by kernel_rfl, by kernel_rfl, by kernel_rfl, by kernel_rfl, by kernel_rfl, Eq.trans (by kernel_rfl) (congrArg (Value.int .i64) hni.out.symm), rfl⟩
        · have hni := hidep (show (n : Int) = zl from by have := HL.out.2.2.2.2.2.2.2.2.2; omega)
          go_wp2
          exact ⟨by kernel_rfl, by kernel_rfl, by kernel_rfl, by kernel_rfl, by kernel_rfl, Eq.trans (by kernel_rfl) (congrArg (Value.int .i64) hni.out.symm), rfl⟩
      rintro ⟨tH, dH⟩ WH ⟨h77, hds, e0, e2, e3, e4, hWH⟩
      simp only at h77 hds e0 e2 e3 e4 hWH
      subst hds
      rw [hWH]
      clear hWH
      (try dsimp only [Exit.then])
      rw [frame77 tH [] h77, e0, e2, e3, e4]
      clear h77 e0 e2 e3 e4 hpc
      have hn48 := HL.out.2.2.2.2.2.2.2.2.1
      have hw8 : IntKind.i64.wrap (8 + (n : Int)) = 8 + (n : Int) := IntWalk.i64_in _ (by omega)
      have HU0 := hidep (show badZ l → unpZ s = part0 from fun hb => by
        unfold unpZ
        rw [if_neg (by rw [hs]; decide), if_pos (by rw [← HL.out.1]; exact hb)])
      have HU1 := hidep (show ¬ badZ l → unpZ s = ⟨zn, zp, zl, s.extract 8 (8 + n), true⟩ from fun hb => by
        unfold unpZ
        rw [if_neg (by rw [hs]; decide), if_neg (by rw [← HL.out.1]; exact hb), ← HL.out.1, ← HL.out.2.2.1, ← HL.out.2.2.2.1, ← HL.out.2.2.2.2.1, ← HL.out.2.2.2.2.2.1])
      have hls : ∀ i (hi : i < s.size), (s[i].toNat : Int) = getU l i := fun i hi => by rw [HL.out.1]; exact str_at s i hi
      have HBZ := hidep (show badZ l ↔ (l.take 56).drop (8 + n) ≠ List.replicate (48 - n) 0 from by
        obtain ⟨-, -, k2, k3, k4, k5, hT, h4, -⟩ := HL.out
        unfold badZ
        rw [← k2, ← k3, ← k4, ← k5]
        constructor
        · intro h
          rcases h with h | h | h | h | h | h
          · exact absurd (.inl (fun e => h (hT.1 e))) h4
          · exact absurd (.inr (.inl (by omega))) h4
          · exact absurd (.inr (.inr (.inl h))) h4
          · exact absurd (.inr (.inr (.inr (.inl h)))) h4
          · exact absurd (.inr (.inr (.inr (.inr ⟨by omega, h.2⟩)))) h4
          · exact h
        · intro h
          exact .inr (.inr (.inr (.inr (.inr h)))))
      go_upto_region 10 with (fail)
      refine wp_loop (LoopI 77 (fun tm ds wr => (slot tm 0) = .string s ∧ (slot tm 2) = .pointer (some ⟨B2, 0, none⟩) ∧ (slot tm 3) = .pointer (some ⟨B3, 0, none⟩) ∧ (slot tm 4) = .int .i64 (n : Int) ∧ ds = [] ∧ ZerI l n W9 (slot tm 5) wr)) (fun a' wr => 56 - natI (a'.tmps.getD 5 undef)) ?zerStart ?zerRound
      case' zerStart => refine LoopI.mk rfl ?_
      case' zerRound => (rintro ⟨t, ds⟩ wr ⟨hts, hrel⟩; dsimp only at hts hrel; rw [frame77 t ds hts])
      case zerStart => exact ⟨rfl, rfl, rfl, rfl, rfl, 0, Nat.zero_le _, rfl, (fun j h1 h2 => by omega), rfl⟩
      obtain ⟨e0, e2, e3, e4, hds, i, hi, e5, hz0, hwr⟩ := hrel
      subst hds
      rw [hwr] at *
      rw [e0, e2, e3, e4, e5]
      clear e0 e2 e3 e4 e5 hts hwr
      by_cases hin : 8 + n + i < 56
      · have hini : ((8 + n + i : Nat) : Int) < 56 := by omega
        have hini2 : ((8 + n + i : Nat) : Int) < (s.size : Int) := by omega
        have hin2 : 8 + n + i < s.size := by omega
        obtain ⟨k, hkk⟩ : ∃ k, k = 8 + n + i := ⟨_, rfl⟩
        rw [← hkk]
        have hk56 : k < 56 := by omega
        have hks : k < s.size := by omega
        have hksi : (k : Int) < (s.size : Int) := by omega
        have hk56i : (k : Int) < 56 := by omega
        have hk0 : (0 : Int) ≤ (k : Int) := by omega
        have hat := hls k hks
        by_cases hx : getU l k = 0
        · have HK := hidep (And.intro hkk hx)
          obtain ⟨x, hxx⟩ : ∃ x, x = getU l k := ⟨_, rfl⟩
          rw [← hxx] at hat
          have g1 : (x != 0) = false := by rw [hxx, hx]; rfl
          have g2 : (x == 0) = true := by rw [hxx, hx]; rfl
          clear hkk hx hini hini2 hin2 hxx hls
          go_wp2
          refine ⟨LoopI.mk rfl ⟨rfl, rfl, rfl, rfl, rfl, i + 1, by have := HK.out.1; omega, by have := HK.out.1; show Value.int _ _ = Value.int _ _; congr 1; omega, (fun j h1 h2 => by
            by_cases hj : j = k
            · rw [hj]; exact HK.out.2
            · exact hz0 j h1 (by have := HK.out.1; omega)), rfl⟩, ?_⟩
          show 56 - _ < 56 - _
          simp [natI]; omega
        · have hneZ := hidep (show badZ l from HBZ.out.2 (fun e => hx (by
            have h1 := congrArg (fun L => L.getD (k - (8 + n)) 0) e
            simp only [List.getD_eq_getElem?_getD, List.getElem?_drop] at h1
            rw [show 8 + n + (k - (8 + n)) = k from by omega, List.getElem?_take_of_lt hk56, List.getElem?_replicate, if_pos (by omega)] at h1
            unfold getU
            rw [List.getD_eq_getElem?_getD]
            exact h1)))
          obtain ⟨x, hxx⟩ : ∃ x, x = getU l k := ⟨_, rfl⟩
          rw [← hxx] at hx hat
          have g1 : (x != 0) = true := by simp [hx]
          have g2 : (x == 0) = false := by simp [hx]
          clear hkk hini hini2 hin2 hxx hls
          go_upto_region 13 with (fail)
          refine wp_region_lit ?_
          refine wpList_value rfl (v := .agg (partC part0)) (w' := W9) (by kernel_rfl) ?_
          refine wpList_store_to rfl 102 _ _ rfl B2 0 (partC part0) (by kernel_rfl) (by kernel_rfl) (there_of_arr hq2 (Nat.le_refl 5)) row_partR.2 (part_one _) _ rfl ?_
          refine wpList_nil ?_
          apply_assumption
          refine wp_ret ?_
          show bodyPost Tryz.prog Tryz.f54 (fun e w' => e = .returned (.agg (partC (unpZ s))) ∧ Below w.heap.size w w') Exit.ret _ _
          refine bodyPost_ret (P := Tryz.prog) (fn := Tryz.f54) (results_cell1 rfl _ _ _ (by kernel_rfl) (partR_load _ B2 part0 _ (partR_set hq2 rfl _))) (by kernel_rfl) ?_
          exact ⟨by rw [HU0.out hneZ.out], below_setCells B2 hB2w _ _ _ hbw9⟩
      · have hini : ¬ ((8 + n + i : Nat) : Int) < 56 := by omega
        have hbz : ¬ badZ l := fun h => HBZ.out.1 h (by
          apply List.ext_getElem
          · rw [List.length_drop, List.length_take, HL.out.2.1, List.length_replicate]; omega
          · intro j h1 h2
            rw [List.length_replicate] at h2
            have h3 := hz0 (8 + n + j) (by omega) (by omega)
            unfold getU at h3
            rw [List.getD_eq_getElem?_getD, List.getElem?_eq_getElem (by have := HL.out.2.1; omega)] at h3
            simpa using h3)
        obtain ⟨pz, hpz⟩ : ∃ pz : PartZ, pz = ⟨zn, zp, zl, s.extract 8 (8 + n), true⟩ := ⟨_, rfl⟩
        have HU := hidep (show unpZ s = pz from by rw [hpz]; exact HU1.out hbz)
        obtain ⟨-, -, -, c3, -⟩ := box5p hq3
        have f3 := box_frozen hq3 3
        have hqn := heap_set hq3 3 (.string (s.extract 8 (8 + n)))
        have hq2n := (Below.heap_setCell W9 ⟨B3, 3, none⟩ (.string (s.extract 8 (8 + n))) B2 hB23).trans hq2
        have hbn := below_set hbw9 ⟨B3, 3, none⟩ (.string (s.extract 8 (8 + n))) hB3w
        have HX := hidep (And.intro hqn (And.intro hq2n hbn))
        have hs1 : 8 + n ≤ s.size := by omega
        have hs2 : ((8 + n : Nat) : Int) ≤ (s.size : Int) := by omega
        have hs3 : (8 : Int) ≤ ((8 + n : Nat) : Int) := by omega
        have hs4 : 8 ≤ 8 + n := by omega
        have HPZ := hidep hpz
        clear hq3 hq2 hbw9 hqn hq2n hbn hbz hz0 hpz
        go_upto_region 15 with (fail)
        have hq5n : (W9.setCell ⟨B3, 3, none⟩ (.string (s.extract 8 (8 + n)))).heap[B3]? = some (.cells (partC pz) 102) := by rw [HPZ.out]; exact HX.out.1
        have hrgn := range_of_arr (cs := (partC pz).toList) (by simpa using hq5n)
        refine wp_region_lit ?_
        refine wpList_load_mid rfl 102 _ rfl B3 0 (by kernel_rfl) (partC pz).toList _ hrgn row_partR.1.choose_spec.1 row_partR.1.choose_spec.2 row_partR.2 ?_
        refine wpList_store_to rfl 102 _ _ rfl B2 0 (partC pz) (by kernel_rfl) (by kernel_rfl) (there_of_arr HX.out.2.1 (Nat.le_refl 5)) row_partR.2 (part_one _) _ rfl ?_
        refine wpList_nil ?_
        apply_assumption
        refine wp_ret ?_
        show bodyPost Tryz.prog Tryz.f54 (fun e w' => e = .returned (.agg (partC (unpZ s))) ∧ Below w.heap.size w w') Exit.ret _ _
        refine bodyPost_ret (P := Tryz.prog) (fn := Tryz.f54) (results_cell1 rfl _ _ _ (by kernel_rfl) (partR_load _ B2 pz _ (partR_set HX.out.2.1 rfl _))) (by kernel_rfl) ?_
        exact ⟨by rw [HU.out], below_setCells B2 hB2w _ _ _ HX.out.2.2⟩
  · have hsi : ¬ (s.size : Int) = 64 := by omega
    have hz : unpZ s = part0 := by unfold unpZ; rw [if_pos hs]
    rw [hz]
    go_enter Tryz.func54, Tryz.ntmps54
    go_wp2
    exact bodyPost_ret (results_cell1 rfl _ _ _ rfl (partR_load _ w.heap.size part0 _ (heap_alloc_new _ _))) rfl ⟨rfl, (Below.refl _ _).alloc (Nat.le_refl _) _⟩
end Go.Proofs.YtipbkdlekanlmaaGreatDoor
