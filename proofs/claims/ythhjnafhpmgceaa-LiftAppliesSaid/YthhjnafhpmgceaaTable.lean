/- Contract: the reference's table of the lengths of longest common parts. -/
import Derived.Test.YthhjnafhpmgceaaLcs
import Derived.StillTailTactics
namespace Go.Proofs.Ythhjnafhpmgceaa
open Go.RowKit Go.Lab
theorem slTabI : (Try.prog.info? 22).map (fun i => (i.zero, i.size, i.bytes)) = some (some (.slice none 0 0), 1, 24) := by kernel_rfl
theorem slRowI : (Try.prog.info? 3).map (fun i => (i.zero, i.size, i.bytes)) = some (some (.int .i64 0), 1, 8) := by kernel_rfl
/-- The table of two texts in memory. -/
def TableAt (w : World) (v : Value) (a b : List Sym) : Prop :=
  ∃ (ob : Nat) (rb : Nat → Nat), v = .slice (some ⟨ob, 0, none⟩) (a.length + 1) (a.length + 1) ∧
    w.rowIs ob 22 (a.length + 1) (fun i => .slice (some ⟨rb i, 0, none⟩) (b.length + 1) (b.length + 1)) ∧
    ∀ i, i ≤ a.length → w.rowIs (rb i) 3 (b.length + 1) (fun k => .int .i64 (lcsM a b i k))
theorem TableAt.below {w w' : World} {v : Value} {a b : List Sym} (h : TableAt w v a b) (hb : Below w.heap.size w w') : TableAt w' v a b := by
  obtain ⟨ob, rb, h1, h3, h4⟩ := h
  exact ⟨ob, rb, h1, rowIs_below h3 hb h3.lt, fun i hi => rowIs_below (h4 i hi) hb (h4 i hi).lt⟩
set_option maxHeartbeats 4000000 in
set_option maxRecDepth 100000 in
theorem table_any (va vb : Value) (a b : List Sym) (w : World) (ha : SymsAt w va a) (hb : SymsAt w vb b) (hla : a.length ≤ 2048) (hlb : b.length ≤ 2048) :
    Calls Try.prog 34 #[va, vb] w fun e w' => ∃ v, e = .returned v ∧ TableAt w' v a b ∧ Below w.heap.size w w' := by
  obtain ⟨aa, ca, rfl, h1, h2⟩ := ha.form
  obtain ⟨ab, cb, rfl, h3, h4⟩ := hb.form
  unfold maxLen at h2 h4
  have hmk1 := fun W => run_make_row' (P := Try.prog) 64 22 (.slice none 0 0) 24 Try.underlying64 slTabI rfl .i64 .i64 (a.length + 1) (by omega) (by omega) W
  have hmk2 := fun W => run_make_row' (P := Try.prog) 22 3 (.int .i64 0) 8 Try.underlying22 slRowI rfl .i64 .i64 (b.length + 1) (by omega) (by omega) W
  simp only [Int.natCast_add, Int.cast_ofNat_Int] at hmk1 hmk2
  have hO0 := World.rowIs_made w (.slice none 0 0) (a.length + 1) 22
  have hB0 : Below w.heap.size w (w.alloc (.cells (madeCells #[.slice none 0 0] (a.length + 1)) 22)) := (Below.refl _ _).alloc (Nat.le_refl _) _
  have HO0 := hidep hO0
  have HB0 := hidep hB0
  clear hO0 hB0
  go_enter Try.func34, Try.ntmps34
  go_wp2
  go_loopg [6] (a.length + 1) (fun g i wr => ∃ (c : Nat) (rb : Nat → Nat), c ≤ a.length + 1 ∧ c = g ∧ i = .int .i64 ((c : Int) - 1) ∧
      wr.rowIs w.heap.size 22 (a.length + 1) (fun x => if c ≤ x then .slice (some ⟨rb x, 0, none⟩) (b.length + 1) (b.length + 1) else .slice none 0 0) ∧
      Hid (∀ i, c ≤ i → i ≤ a.length → wr.rowIs (rb i) 3 (b.length + 1) (fun k => .int .i64 (lcsM a b i k))) ∧ Below w.heap.size w wr)
  case atStart => exact ⟨a.length + 1, fun _ => 0, Nat.le_refl _, rfl, congrArg _ (by omega), HO0.out.congr (fun x hx => by rw [if_neg (by omega)]), hidep (fun i hi hi2 => by omega), HB0.out⟩
  case round =>
    obtain ⟨c, rb, hc, hg, rfl, hO, HR, hB⟩ := hrel
    have HG := hidep hg
    clear hg
    match c, hc with
    | 0, hc =>
      have HPA : Hid (TableAt wr (.slice (some ⟨w.heap.size, 0, none⟩) (a.length + 1) (a.length + 1)) a b) :=
        hidep ⟨w.heap.size, rb, rfl, hO.congr (fun x _ => by simp), fun i hi => HR.out i (by omega) hi⟩
      clear hO
      go_wp2
      go_ret
      exact ⟨_, rfl, HPA.out, hB⟩
    | j + 1, hc =>
      rw [show (((j + 1 : Nat) : Int) - 1) = (j : Int) from by omega]
      have hBs := hB.size
      have hOlt := hO.lt
      have hc1 := hO.cell (i := j) (by omega)
      rw [if_neg (by omega)] at hc1
      have hc2 := hO.frozen j
      have hI1 : (0 : Int) ≤ (j : Int) := by omega
      have hI3 : (j : Int) < (a.length : Int) + 1 := by omega
      have HO := hidep hO
      have HB := hidep hB
      clear hO hB
      go_upto_region 5 with (fail)
      go_cut [5] (fun s5 wc => s5 = .slice (some ⟨w.heap.size, 0, none⟩) (a.length + 1) (a.length + 1) ∧ ∃ rb' : Nat → Nat, w.heap.size < rb' j ∧
        wc.rowIs w.heap.size 22 (a.length + 1) (fun x => if j ≤ x then .slice (some ⟨rb' x, 0, none⟩) (b.length + 1) (b.length + 1) else .slice none 0 0) ∧
        wc.rowIs (rb' j) 3 (b.length + 1) (fun _ => .int .i64 0) ∧
        Hid (∀ i, j + 1 ≤ i → i ≤ a.length → rb' i ≠ rb' j ∧ wc.rowIs (rb' i) 3 (b.length + 1) (fun k => .int .i64 (lcsM a b i k))) ∧ Below w.heap.size w wc)
      case first =>
        go_wp2
        go_meet
        have hq := World.rowIs_made (wr.setCell ⟨w.heap.size, j, none⟩ (.slice (some ⟨wr.heap.size, 0, none⟩) (b.length + 1) (b.length + 1))) (.int .i64 0) (b.length + 1) 3
        have hs : (wr.setCell ⟨w.heap.size, j, none⟩ (.slice (some ⟨wr.heap.size, 0, none⟩) (b.length + 1) (b.length + 1))).heap.size = wr.heap.size := by simp [World.setCell]
        rw [hs] at hq
        refine ⟨rfl, fun x => if x = j then wr.heap.size else rb x, by simp only [if_true]; exact hOlt, ?_, by simp only [if_true]; exact hq, hidep ?_, (HB.out.setCell (Nat.le_refl _) _).alloc (by rw [hs]; omega) _⟩
        · refine ((HO.out.set j _).alloc _).congr (fun x hx => ?_)
          by_cases h : x = j
          · simp [h]
          · by_cases h2 : j + 1 ≤ x
            · simp [h, h2, show j ≤ x by omega]
            · simp [h, h2, show ¬ j ≤ x by omega]
        · intro i hi hi2
          have hri := HR.out i hi hi2
          have hlt := hri.lt
          simp only [if_neg (show i ≠ j by omega), if_true]
          exact ⟨by omega, (hri.setOther (a := ⟨w.heap.size, j, none⟩) (rowIs_ne hri HO.out (by decide)) _).alloc _⟩
      case rest =>
        obtain ⟨rfl, rb', hb0, hO2, hR, HR2, hB2⟩ := hcut
        have HO2 := hidep hO2
        have HB2 := hidep hB2
        clear hO2 hB2 hc1 hc2 HO HB HR
        obtain ⟨wo, rfl⟩ : ∃ wo : World, wo = wc := ⟨_, rfl⟩
        go_wp2
        go_loopg [7] b.length (fun g i wl => ∃ c2 : Nat, c2 ≤ b.length ∧ c2 = g ∧ (j = a.length → c2 = b.length) ∧ i = .int .i64 ((c2 : Int) - 1) ∧
          wl.rowIs (rb' j) 3 (b.length + 1) (fun x => if c2 ≤ x then .int .i64 (lcsM a b j x) else .int .i64 0) ∧ wo.grownBy wl (some (rb' j)))
        case atStart => exact ⟨b.length, Nat.le_refl _, rfl, fun _ => rfl, rfl, hR.congr (fun x hx => by
          by_cases h : b.length ≤ x
          · rw [if_pos h, lcsM_end_k h]; rfl
          · rw [if_neg h]), ⟨rfl, rfl, rfl, Nat.le_refl _, fun _ _ _ => rfl⟩⟩
        case round =>
          obtain ⟨c2, hc2, hg2, hjn, rfl, hRow, hGr⟩ := hrel
          have HG2 := hidep hg2
          have HJN := hidep hjn
          clear hg2 hjn hR
          have hne : ∀ k, k ≠ rb' j → some k ≠ some (rb' j) := fun k h e => h (by injection e)
          have hO3 : wr.rowIs w.heap.size 22 (a.length + 1) (fun x => if j ≤ x then .slice (some ⟨rb' x, 0, none⟩) (b.length + 1) (b.length + 1) else .slice none 0 0) :=
            HO2.out.of_block (hGr.block _ HO2.out.lt (hne _ (by omega)))
          have HR3 : Hid (∀ i, j + 1 ≤ i → i ≤ a.length → wr.rowIs (rb' i) 3 (b.length + 1) (fun k => .int .i64 (lcsM a b i k))) :=
            hidep (fun i hi hi2 => (HR2.out i hi hi2).2.of_block (hGr.block _ (HR2.out i hi hi2).2.lt (hne _ (HR2.out i hi hi2).1)))
          have hB3 : Below w.heap.size w wr := HB2.out.grown hGr HB2.out.size (fun k hk => by injection hk with hk; omega)
          by_cases hstop : c2 = 0 ∨ j = a.length
          · have hst : (j : Int) < (a.length : Int) → (c2 : Int) - 1 < 0 := by omega
            have hfin : ∀ i, j ≤ i → i ≤ a.length → wr.rowIs (rb' i) 3 (b.length + 1) (fun k => .int .i64 (lcsM a b i k)) := by
              intro i hi hi2
              by_cases h : i = j
              · subst h
                refine hRow.congr (fun x hx => ?_)
                rcases hstop with h0 | h0
                · subst h0; simp
                · have := HJN.out h0
                  by_cases h5 : c2 ≤ x
                  · rw [if_pos h5]
                  · rw [if_neg h5, lcsM_end_i (by omega)]; rfl
              · exact HR3.out i (by omega) hi2
            have HFIN := hidep hfin
            have HO3 := hidep hO3
            clear hfin hO3 hRow hGr
            rcases hstop with h0 | h0
            · subst h0
              go_wp2
              all_goals
                go_roundg j
                case measure => have := HG.out; omega
                case rel => exact ⟨j, rb', by omega, rfl, rfl, HO3.out, HFIN, hB3⟩
            · have hjl : ¬ (j : Int) < (a.length : Int) := by omega
              have HJ := hidep h0
              clear h0 hst
              go_wp2
              all_goals
                go_roundg j
                case measure => have := HG.out; omega
                case rel => exact ⟨j, rb', by omega, rfl, rfl, HO3.out, HFIN, hB3⟩
          · match c2, hc2 with
            | 0, _ => exact absurd (.inl rfl) hstop
            | k + 1, hc2 =>
              rw [show (((k + 1 : Nat) : Int) - 1) = (k : Int) from by omega]
              have hj : j < a.length := by omega
              clear hstop
              obtain ⟨ba, oa, rfl, hba, hca1, hca2⟩ := ha.at (k := j) (by omega)
              obtain ⟨bb, obb, rfl, hbb, hcb1, hcb2⟩ := hb.at (k := k) (by omega)
              have hD := HR3.out (j + 1) (Nat.le_refl _) (by omega)
              have hd0 := (HR2.out (j + 1) (Nat.le_refl _) (by omega)).1
              have hd1 := hD.cell (i := k + 1) (by omega)
              have hd2 := hD.cell (i := k) (by omega)
              have hr1 := hRow.cell (i := k) (by omega)
              rw [if_neg (by omega)] at hr1
              have hr2 := hRow.cell (i := k + 1) (by omega)
              rw [if_pos (Nat.le_refl _)] at hr2
              have hr3 := hRow.frozen k
              have ho1 := hO3.cell (i := j) (by omega)
              rw [if_pos (Nat.le_refl _)] at ho1
              have ho2 := hO3.cell (i := j + 1) (by omega)
              rw [if_pos (by omega)] at ho2
              have hm1 := lcsM_le a b (j + 1) (k + 1)
              have hm2 := lcsM_le a b (j + 1) k
              have hm3 := lcsM_le a b j (k + 1)
              have hM1 : (lcsM a b (j + 1) (k + 1) : Int) ≤ 2048 := by omega
              have hM2 : (lcsM a b (j + 1) k : Int) ≤ 2048 := by omega
              have hM3 : (lcsM a b j (k + 1) : Int) ≤ 2048 := by omega
              have hmo := lcsM_mono a b (j + 1) k
              have hmo2 := lcsM_mono a b j (k + 1)
              have HMO : Hid (lcsM a b (j + 1) k ≤ 1 + lcsM a b (j + 1) (k + 1) ∧ lcsM a b j (k + 1) ≤ 1 + lcsM a b (j + 1) (k + 1)) := hidep ⟨hmo.2.2.2, hmo2.2.1⟩
              have HST := hidep (@lcsM_step a b j k (by omega) (by omega))
              have hI5 : (0 : Int) ≤ (k : Int) := by omega
              have hI6 : (k : Int) < (b.length : Int) := by omega
              have hI7 : (j : Int) < (a.length : Int) := by omega
              have hI8 : (k : Int) < (b.length : Int) + 1 := by omega
              have hI9 : (k : Int) + 1 < (b.length : Int) + 1 := by omega
              have hI10 : (0 : Int) ≤ (k : Int) + 1 := by omega
              have hI11 : (0 : Int) ≤ (j : Int) + 1 := by omega
              have hI12 : (j : Int) + 1 < (a.length : Int) + 1 := by omega
              have hne1 : rb' (j + 1) ≠ rb' j := hd0
              have hne2 : w.heap.size ≠ rb' j := by omega
              have HRow := hidep hRow
              have HGr := hidep hGr
              clear hRow hGr hD hm1 hm2 hm3 ha hb hO3 hd0 hmo hmo2
              have HFIN : Hid (∀ (v : Value), v = .int .i64 (lcsM a b j k) → ∀ W : World, W.rowIs (rb' j) 3 (b.length + 1) (fun x => if x = k then v else if k + 1 ≤ x then .int .i64 (lcsM a b j x) else .int .i64 0) → W.rowIs (rb' j) 3 (b.length + 1) (fun x => if k ≤ x then .int .i64 (lcsM a b j x) else .int .i64 0)) := hidep (by
                rintro v rfl W hW
                refine hW.congr (fun x hx => ?_)
                by_cases h : x = k
                · simp [h]
                · by_cases h2 : k + 1 ≤ x
                  · simp [h, h2, show k ≤ x by omega]
                  · simp [h, h2, show ¬ k ≤ x by omega])
              generalize hE1 : lcsM a b (j + 1) (k + 1) = M1 at *
              have HE1 := hidep hE1
              clear hE1
              generalize lcsM a b (j + 1) k = M2 at *
              generalize lcsM a b j (k + 1) = M3 at *
              have hax : j < a.length := by omega
              have hbx : k < b.length := by omega
              generalize hX : a[j] = X at *
              generalize hY : b[k] = Y at *
              clear hX hY
              obtain ⟨x1, x2⟩ := X
              obtain ⟨y1, y2⟩ := Y
              simp only at hca1 hca2 hcb1 hcb2
              go_upto_region 9 with (fail)
              have F1 : ∀ v, (wr.setCell ⟨rb' j, k, none⟩ v).cell? ⟨w.heap.size, j, none⟩ = some (.slice (some ⟨rb' j, 0, none⟩) (b.length + 1) (b.length + 1)) := fun v => (World.cell?_setCell_other _ _ _ _ (by intro e; injection e; omega)).trans ho1
              have F2 : ∀ v, (wr.setCell ⟨rb' j, k, none⟩ v).cell? ⟨w.heap.size, j + 1, none⟩ = some (.slice (some ⟨rb' (j + 1), 0, none⟩) (b.length + 1) (b.length + 1)) := fun v => (World.cell?_setCell_other _ _ _ _ (by intro e; injection e; omega)).trans ho2
              have F3 : ∀ v, (wr.setCell ⟨rb' j, k, none⟩ v).cell? ⟨rb' (j + 1), k, none⟩ = some (.int .i64 M2) := fun v => (World.cell?_setCell_other _ _ _ _ (by intro e; injection e; omega)).trans hd2
              have F4 : ∀ v, (wr.setCell ⟨rb' j, k, none⟩ v).cell? ⟨rb' j, k + 1, none⟩ = some (.int .i64 M3) := fun v => (World.cell?_setCell_other _ _ _ _ (by intro e; injection e; omega)).trans hr2
              have HCA := hidep (And.intro hca1 (And.intro hca2 (And.intro hcb1 hcb2)))
              clear hca1 hca2 hcb1 hcb2
              go_cut [5] (fun s5 wc => s5 = .slice (some ⟨w.heap.size, 0, none⟩) (a.length + 1) (a.length + 1) ∧ Hid (wc.rowIs (rb' j) 3 (b.length + 1) (fun x => if x = k then .int .i64 (max M2 M3 : Nat) else if k + 1 ≤ x then .int .i64 (lcsM a b j x) else .int .i64 0) ∧ wo.grownBy wc (some (rb' j))))
              case first =>
                have hwr1 : IntKind.i64.wrap ((j : Int) + 1) = (j : Int) + 1 := IntWalk.i64_in _ (by omega)
                have hwr2 : IntKind.i64.wrap ((k : Int) + 1) = (k : Int) + 1 := IntWalk.i64_in _ (by omega)
                go_region_held3 (fun w' => w'.cell? ⟨w.heap.size, j, none⟩ = some (.slice (some ⟨rb' j, 0, none⟩) (b.length + 1) (b.length + 1)) ∧ w'.cell? ⟨w.heap.size, j + 1, none⟩ = some (.slice (some ⟨rb' (j + 1), 0, none⟩) (b.length + 1) (b.length + 1)) ∧ w'.cell? ⟨rb' (j + 1), k, none⟩ = some (.int .i64 M2) ∧ w'.cell? ⟨rb' j, k + 1, none⟩ = some (.int .i64 M3)) (first | go_keep | (go_simp; exact ⟨F1 _, F2 _, F3 _, F4 _⟩) | exact ⟨F1 _, F2 _, F3 _, F4 _⟩) (first | fail)
                clear hwr1 hwr2
                go_wp2
                all_goals
                  go_meet
                  refine ⟨rfl, hidep ⟨?_, ?_⟩⟩
                  · exact (HRow.out.set k _).congr (fun x hx => by
                      by_cases h : x = k
                      · simp only [if_pos h]; exact congrArg (Value.int .i64) (by omega)
                      · simp only [if_neg h])
                  · exact ⟨HGr.out.os, HGr.out.tape, HGr.out.output, Nat.le_trans HGr.out.size (by simp [World.setCell]), fun i hi hne => (Below.heap_setCell wr ⟨rb' j, k, none⟩ _ i (fun e => hne (by rw [e]))).trans (HGr.out.block i hi hne)⟩
              case rest =>
                obtain ⟨rfl, HW⟩ := hcut
                obtain ⟨hRow4, hGr4⟩ := HW.out
                clear hd1 hd2 hr1 hr2 hr3 ho1 ho2 hB3 HRow HGr F1 F2 F3 F4 HR3
                have hne : ∀ k, k ≠ rb' j → some k ≠ some (rb' j) := fun k h e => h (by injection e)
                have hO3 := HO2.out.of_block (hGr4.block _ HO2.out.lt (hne _ (by omega)))
                have hD := (HR2.out (j + 1) (Nat.le_refl _) (by omega)).2.of_block (hGr4.block _ (HR2.out (j + 1) (Nat.le_refl _) (by omega)).2.lt (hne _ hne1))
                have hB3 : Below w.heap.size w wc := HB2.out.grown hGr4 HB2.out.size (fun k hk => by injection hk with hk; omega)
                have hca1 := (hB3.cell (p := ⟨ba, oa + j * 2, none⟩) hba).trans HCA.out.1
                have hca2 := (hB3.cell (p := ⟨ba, oa + j * 2 + 1, none⟩) hba).trans HCA.out.2.1
                have hcb1 := (hB3.cell (p := ⟨bb, obb + k * 2, none⟩) hbb).trans HCA.out.2.2.1
                have hcb2 := (hB3.cell (p := ⟨bb, obb + k * 2 + 1, none⟩) hbb).trans HCA.out.2.2.2
                have hd1 := hD.cell (i := k + 1) (by omega)
                rw [HE1.out] at hd1
                have hr1 := hRow4.cell (i := k) (by omega)
                rw [if_pos rfl] at hr1
                have hr3 := hRow4.frozen k
                have ho1 := hO3.cell (i := j) (by omega)
                rw [if_pos (Nat.le_refl _)] at ho1
                have ho2 := hO3.cell (i := j + 1) (by omega)
                rw [if_pos (by omega)] at ho2
                have HRow := hidep hRow4
                have HGr := hidep hGr4
                obtain ⟨MX, hMX⟩ : ∃ MX : Nat, MX = max M2 M3 := ⟨_, rfl⟩
                have HMX := hidep hMX
                rw [← hMX] at hr1 HRow
                have hMXb : (MX : Int) ≤ 2048 := by omega
                clear hMX hRow4 hGr4 hD hO3 HW hB3
                have hG := run_guard_sym
                by_cases hxy : (⟨x1, x2⟩ : Sym) = ⟨y1, y2⟩
                · have HST := hidep (HST.out.trans (if_pos hxy))
                  have hE : ∀ W, (binOp .eql 30 (.agg #[.int .i64 x1, .int .u8 x2]) (.agg #[.int .i64 y1, .int .u8 y2])).run Try.prog W = .ok (.bool true) W := fun W => by
                    rw [run_eql_sym]
                    injection hxy with e1 e2
                    subst e1 e2
                    simp
                  clear hxy
                  go_wp2
                  go_quiet (fail)
                  go_wp2
                  have hwr1 : IntKind.i64.wrap ((j : Int) + 1) = (j : Int) + 1 := IntWalk.i64_in _ (by omega)
                  have hwr2 : IntKind.i64.wrap ((k : Int) + 1) = (k : Int) + 1 := IntWalk.i64_in _ (by omega)
                  have hwr3 : IntKind.i64.wrap (1 + (M1 : Int)) = 1 + (M1 : Int) := IntWalk.i64_in _ (by omega)
                  go_region
                  clear hwr1 hwr2 hwr3
                  have HRow2 : Hid (∀ n v, ((wc.drewN n).setCell ⟨rb' j, k, none⟩ v).rowIs (rb' j) 3 (b.length + 1) (fun x => if x = k then v else if k + 1 ≤ x then .int .i64 (lcsM a b j x) else .int .i64 0)) :=
                    hidep (fun n v => (World.rowIs.set (w := wc.drewN n) HRow.out k v).congr (fun x hx => by by_cases h : x = k <;> simp [h]))
                  go_wp2
                  all_goals
                    go_roundg k
                    case measure => have := HG2.out; omega
                    case rel =>
                      refine ⟨k, by omega, rfl, fun e => by omega, rfl, HFIN.out _ ?_ _ (HRow2.out _ _), ⟨HGr.out.os, HGr.out.tape, HGr.out.output, Nat.le_trans HGr.out.size (by simp [World.setCell]), fun i hi hne => (Below.heap_setCell wc ⟨rb' j, k, none⟩ _ i (fun e => hne (by rw [e]))).trans (HGr.out.block i hi hne)⟩⟩
                      exact congrArg (Value.int .i64) (by have := HST.out; have := HMX.out; have := HMO.out; omega)
                · have HST := hidep (HST.out.trans (if_neg hxy))
                  have hE : ∀ W, (binOp .eql 30 (.agg #[.int .i64 x1, .int .u8 x2]) (.agg #[.int .i64 y1, .int .u8 y2])).run Try.prog W = .ok (.bool false) W := fun W => by
                    rw [run_eql_sym]
                    have : ((x1 == y1) && (x2 == y2)) = false := by
                      rw [Bool.and_eq_false_iff]
                      by_cases e1 : x1 = y1
                      · right
                        simpa using fun e2 => hxy (by rw [e1, e2])
                      · left
                        simpa using e1
                    rw [this]
                  clear hxy
                  go_wp2
                  go_quiet (fail)
                  go_wp2
                  go_roundg k
                  case measure => have := HG2.out; omega
                  case rel => exact ⟨k, by omega, rfl, fun e => by omega, rfl, HFIN.out (.int .i64 MX) (congrArg (Value.int .i64) (by have := HST.out; have := HMX.out; omega)) _ HRow.out, ⟨HGr.out.os, HGr.out.tape, HGr.out.output, HGr.out.size, HGr.out.block⟩⟩
end Go.Proofs.Ythhjnafhpmgceaa
