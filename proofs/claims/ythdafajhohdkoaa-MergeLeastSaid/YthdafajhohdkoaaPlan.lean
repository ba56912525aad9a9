/- Contract: lift.newPlan: the table of the lengths of longest common parts. -/
import Derived.Test.YthdafajhohdkoaaLcs
namespace Go.Proofs.Ythdafajhohdkoaa
open Go.RowKit Go.Lab
theorem slTab : (Try.prog.info? 108).map (fun i => (i.zero, i.size, i.bytes)) = some (some (.slice none 0 0), 1, 24) := by kernel_rfl
theorem slRow : (Try.prog.info? 109).map (fun i => (i.zero, i.size, i.bytes)) = some (some (.int .i16 0), 1, 2) := by kernel_rfl
/-- A plan of two texts in memory: the struct, the outer row, and a row of numbers for each place of the first text and its end. -/
def PlanAt (w : World) (v va vb : Value) (a b : List Sym) : Prop :=
  ∃ (pb ob : Nat) (rb : Nat → Nat), v = .pointer (some ⟨pb, 0, none⟩) ∧ w.heap[pb]? = some (.cells #[va, vb, .slice (some ⟨ob, 0, none⟩) (a.length + 1) (a.length + 1)] 107 (0, 0)) ∧
    w.rowIs ob 108 (a.length + 1) (fun i => .slice (some ⟨rb i, 0, none⟩) (b.length + 1) (b.length + 1)) ∧
    ∀ i, i ≤ a.length → w.rowIs (rb i) 109 (b.length + 1) (fun k => .int .i16 (lcsM a b i k))
theorem PlanAt.below {w w' : World} {v va vb : Value} {a b : List Sym} (h : PlanAt w v va vb a b) (hb : Below w.heap.size w w') : PlanAt w' v va vb a b := by
  obtain ⟨pb, ob, rb, h1, h2, h3, h4⟩ := h
  exact ⟨pb, ob, rb, h1, (hb.block pb (lt_of_block h2)).trans h2, rowIs_below h3 hb h3.lt, fun i hi => rowIs_below (h4 i hi) hb (h4 i hi).lt⟩
set_option maxHeartbeats 2000000 in
set_option maxRecDepth 100000 in
theorem newPlan_any (va vb : Value) (a b : List Sym) (w : World) (ha : SymsAt w va a) (hb : SymsAt w vb b) (hla : a.length ≤ 2048) (hlb : b.length ≤ 2048) :
    Calls Try.prog 66 #[va, vb] w fun e w' => ∃ v, e = .returned v ∧ PlanAt w' v va vb a b ∧ Below w.heap.size w w' := by
  obtain ⟨aa, ca, rfl, h1, h2⟩ := ha.form
  obtain ⟨ab, cb, rfl, h3, h4⟩ := hb.form
  unfold maxLen at h2 h4
  have hmk1 := fun W => run_make_row' (P := Try.prog) 105 108 (.slice none 0 0) 24 Try.underlying105 slTab rfl .i64 .i64 (a.length + 1) (by omega) (by omega) W
  have hmk2 := fun W => run_make_row' (P := Try.prog) 108 109 (.int .i16 0) 2 Try.underlying108 slRow rfl .i64 .i64 (b.length + 1) (by omega) (by omega) W
  simp only [Int.natCast_add, Int.cast_ofNat_Int] at hmk1 hmk2
  go_enter Try.func66, Try.ntmps66
  go_upto_region 2 with (fail)
  have hO0 := (World.rowIs_made w (.slice none 0 0) (a.length + 1) 108).alloc (.cells #[.slice aa a.length ca, .slice ab b.length cb, .slice (some ⟨w.heap.size, 0, none⟩) (a.length + 1) (a.length + 1)] 107)
  have hP0 : ((w.alloc (.cells (madeCells #[.slice none 0 0] (a.length + 1)) 108)).alloc (.cells #[.slice aa a.length ca, .slice ab b.length cb, .slice (some ⟨w.heap.size, 0, none⟩) (a.length + 1) (a.length + 1)] 107)).heap[w.heap.size + 1]? = some (.cells #[.slice aa a.length ca, .slice ab b.length cb, .slice (some ⟨w.heap.size, 0, none⟩) (a.length + 1) (a.length + 1)] 107 (0, 0)) := by
    have := heap_alloc_new (w.alloc (.cells (madeCells #[.slice none 0 0] (a.length + 1)) 108)) (.cells #[.slice aa a.length ca, .slice ab b.length cb, .slice (some ⟨w.heap.size, 0, none⟩) (a.length + 1) (a.length + 1)] 107)
    simpa using this
  have hB0 : Below w.heap.size w ((w.alloc (.cells (madeCells #[.slice none 0 0] (a.length + 1)) 108)).alloc (.cells #[.slice aa a.length ca, .slice ab b.length cb, .slice (some ⟨w.heap.size, 0, none⟩) (a.length + 1) (a.length + 1)] 107)) := ((Below.refl _ _).alloc (Nat.le_refl _) _).alloc (by simp) _
  have hZ0 : w.heap.size + 2 ≤ ((w.alloc (.cells (madeCells #[.slice none 0 0] (a.length + 1)) 108)).alloc (.cells #[.slice aa a.length ca, .slice ab b.length cb, .slice (some ⟨w.heap.size, 0, none⟩) (a.length + 1) (a.length + 1)] 107)).heap.size := by simp
  generalize ((w.alloc (.cells (madeCells #[.slice none 0 0] (a.length + 1)) 108)).alloc (.cells #[.slice aa a.length ca, .slice ab b.length cb, .slice (some ⟨w.heap.size, 0, none⟩) (a.length + 1) (a.length + 1)] 107)) = W0 at *
  go_cut [5] (fun s5 wc => s5 = .pointer (some ⟨w.heap.size + 1, 0, none⟩) ∧ ∃ r0, wc.rowIs w.heap.size 108 (a.length + 1) (fun x => if x = a.length then .slice (some ⟨r0, 0, none⟩) (b.length + 1) (b.length + 1) else .slice none 0 0) ∧
    wc.rowIs r0 109 (b.length + 1) (fun _ => .int .i16 0) ∧ wc.heap[w.heap.size + 1]? = some (.cells #[.slice aa a.length ca, .slice ab b.length cb, .slice (some ⟨w.heap.size, 0, none⟩) (a.length + 1) (a.length + 1)] 107 (0, 0)) ∧ Below w.heap.size w wc)
  case first =>
    have hc1 : W0.cell? ⟨w.heap.size + 1, 2, none⟩ = some (.slice (some ⟨w.heap.size, 0, none⟩) (a.length + 1) (a.length + 1)) := by simp [World.cell?, hP0]
    have hc2 := hO0.cell (i := a.length) (by omega)
    have hc3 := hO0.frozen a.length
    have hI1 : (0 : Int) ≤ (a.length : Int) := by omega
    have hI2 : (a.length : Int) < (a.length : Int) + 1 := by omega
    have hz1 : w.heap.size + 1 < W0.heap.size := by omega
    have hz2 : w.heap.size < W0.heap.size := by omega
    have HO := hidep hO0
    have HP := hidep hP0
    have HB := hidep hB0
    clear hO0 hP0 hB0 ha hb
    have hwr : IntKind.i64.wrap ((b.length : Int) + 1) = (b.length : Int) + 1 := IntWalk.i64_in _ (by omega)
    go_region_held3 (fun w' => w'.cell? ⟨w.heap.size + 1, 2, none⟩ = some (.slice (some ⟨w.heap.size, 0, none⟩) (a.length + 1) (a.length + 1))) (go_keep) (first | fail)
    clear hwr
    go_wp2
    go_meet
    have hq := World.rowIs_made (W0.setCell ⟨w.heap.size, a.length, none⟩ (.slice (some ⟨W0.heap.size, 0, none⟩) (b.length + 1) (b.length + 1))) (.int .i16 0) (b.length + 1) 109
    have hs : (W0.setCell ⟨w.heap.size, a.length, none⟩ (.slice (some ⟨W0.heap.size, 0, none⟩) (b.length + 1) (b.length + 1))).heap.size = W0.heap.size := by simp [World.setCell]
    rw [hs] at hq
    refine ⟨rfl, W0.heap.size, ((HO.out.set _ _).alloc _).drew, hq, ?_, ((HB.out.setCell (Nat.le_refl _) _).alloc (by rw [hs]; omega) _).drew⟩
    show (World.heap (World.alloc _ _))[w.heap.size + 1]? = _
    rw [Below.heap_alloc _ _ _ (by rw [hs]; exact hz1), Below.heap_setCell _ _ _ _ (by show w.heap.size + 1 ≠ w.heap.size; omega)]
    exact HP.out
  case rest =>
    obtain ⟨rfl, r0, hO, hR, hP, hB⟩ := hcut
    clear hO0 hP0 hB0 hZ0
    have hstart : ∀ i, a.length ≤ i → i ≤ a.length → wc.rowIs r0 109 (b.length + 1) (fun k => .int .i16 (lcsM a b i k)) := fun i hi hi' => hR.congr (fun k _ => by rw [lcsM_end_i (by omega)]; rfl)
    have HST := hidep hstart
    clear hstart hR
    go_wp2
    go_loopg [6] a.length (fun g i wr => ∃ (c : Nat) (rb : Nat → Nat), c ≤ a.length ∧ c = g ∧ i = .int .i64 ((c : Int) - 1) ∧
      wr.rowIs w.heap.size 108 (a.length + 1) (fun x => if c ≤ x then .slice (some ⟨rb x, 0, none⟩) (b.length + 1) (b.length + 1) else .slice none 0 0) ∧
      Hid (∀ i, c ≤ i → i ≤ a.length → wr.rowIs (rb i) 109 (b.length + 1) (fun k => .int .i16 (lcsM a b i k))) ∧
      wr.heap[w.heap.size + 1]? = some (.cells #[.slice aa a.length ca, .slice ab b.length cb, .slice (some ⟨w.heap.size, 0, none⟩) (a.length + 1) (a.length + 1)] 107 (0, 0)) ∧ Below w.heap.size w wr)
    case atStart => exact ⟨a.length, fun _ => r0, Nat.le_refl _, rfl, rfl, hO.congr (fun x hx => by by_cases h : x = a.length <;> simp [h] <;> omega), HST, hP, hB⟩
    case round =>
      obtain ⟨c, rb, hc, hg, rfl, hO, HR, hP, hB⟩ := hrel
      have HG := hidep hg
      clear hg HST
      match c, hc with
      | 0, hc =>
        have HPA : Hid (PlanAt wr (.pointer (some ⟨w.heap.size + 1, 0, none⟩)) (.slice aa a.length ca) (.slice ab b.length cb) a b) :=
          hidep ⟨w.heap.size + 1, w.heap.size, rb, rfl, hP, hO.congr (fun x _ => by simp), fun i hi => HR.out i (by omega) hi⟩
        clear hO hP
        go_wp2
        go_ret
        exact ⟨_, rfl, HPA.out, hB⟩
      | j + 1, hc =>
        rw [show (((j + 1 : Nat) : Int) - 1) = (j : Int) from by omega]
        have hBs := hB.size
        have hlp := lt_of_block hP
        have hc1 : wr.cell? ⟨w.heap.size + 1, 2, none⟩ = some (.slice (some ⟨w.heap.size, 0, none⟩) (a.length + 1) (a.length + 1)) := by simp [World.cell?, hP]
        have hc2 := hO.cell (i := j + 1) (by omega)
        rw [if_pos (Nat.le_refl _)] at hc2
        have HO := hidep hO
        have HP := hidep hP
        have HB := hidep hB
        have hz2 : w.heap.size < wr.heap.size := by omega
        have hI1 : (0 : Int) ≤ (j : Int) := by omega
        have hI2 : (0 : Int) ≤ (j : Int) + 1 := by omega
        have hI3 : (j : Int) + 1 < (a.length : Int) + 1 := by omega
        clear hO hP hB
        go_upto_region 6 with (fail)
        go_cut [7, 8] (fun s7 s8 wc => s7 = .slice (some ⟨wr.heap.size, 0, none⟩) (b.length + 1) (b.length + 1) ∧ s8 = .slice (some ⟨rb (j + 1), 0, none⟩) (b.length + 1) (b.length + 1) ∧ Hid (wc.rowIs wr.heap.size 109 (b.length + 1) (fun _ => .int .i16 0) ∧ Below wr.heap.size wr wc))
        case first =>
          have hwr : IntKind.i64.wrap ((b.length : Int) + 1) = (b.length : Int) + 1 := IntWalk.i64_in _ (by omega)
          have hwr2 : IntKind.i64.wrap ((j : Int) + 1) = (j : Int) + 1 := IntWalk.i64_in _ (by omega)
          go_region_held3 (fun w' => w'.cell? ⟨w.heap.size + 1, 2, none⟩ = some (.slice (some ⟨w.heap.size, 0, none⟩) (a.length + 1) (a.length + 1)) ∧ w'.cell? ⟨w.heap.size, j + 1, none⟩ = some (.slice (some ⟨rb (j + 1), 0, none⟩) (b.length + 1) (b.length + 1))) (go_keep) (first | fail)
          all_goals
            clear hwr hwr2
            go_wp2
            go_meet
            exact ⟨rfl, rfl, hidep ⟨World.rowIs_made wr.drew (.int .i16 0) (b.length + 1) 109, (Below.refl _ _).drew.alloc (Nat.le_refl _) _⟩⟩
        case rest =>
          obtain ⟨rfl, rfl, HW⟩ := hcut
          obtain ⟨hR, hBw⟩ := HW.out
          have hD := rowIs_below (HR.out (j + 1) (Nat.le_refl _) (by omega)) hBw (HR.out (j + 1) (Nat.le_refl _) (by omega)).lt
          have hdlt := (HR.out (j + 1) (Nat.le_refl _) (by omega)).lt
          have hHD : Hid (wr.rowIs (rb (j + 1)) 109 (b.length + 1) (fun k => .int .i16 (lcsM a b (j + 1) k))) := hidep (HR.out (j + 1) (Nat.le_refl _) (by omega))
          clear hD HW hc1 hc2
          obtain ⟨wo, rfl⟩ : ∃ wo : World, wo = wr := ⟨_, rfl⟩
          go_wp2
          go_loopg [9] b.length (fun g i wl => ∃ c2 : Nat, c2 ≤ b.length ∧ c2 = g ∧ i = .int .i64 ((c2 : Int) - 1) ∧
            wl.rowIs wo.heap.size 109 (b.length + 1) (fun x => if c2 ≤ x then .int .i16 (lcsM a b j x) else .int .i16 0) ∧ Below wo.heap.size wo wl)
          case atStart => exact ⟨b.length, Nat.le_refl _, rfl, rfl, hR.congr (fun x hx => by
            by_cases h : b.length ≤ x
            · rw [if_pos h, lcsM_end_k h]; rfl
            · rw [if_neg h]), hBw⟩
          case round =>
            obtain ⟨c2, hc2, hg2, rfl, hRow, hBl⟩ := hrel
            have HG2 := hidep hg2
            clear hg2 hR hBw
            match c2, hc2 with
            | 0, hc2 =>
              have hbs := hBl.size
              have hp2 := (hBl.block (w.heap.size + 1) hlp).trans HP.out
              have hc1 : wr.cell? ⟨w.heap.size + 1, 2, none⟩ = some (.slice (some ⟨w.heap.size, 0, none⟩) (a.length + 1) (a.length + 1)) := by simp [World.cell?, hp2]
              have hO2 := rowIs_below HO.out hBl hz2
              have hc3 := hO2.cell (i := j) (by omega)
              have hc4 := hO2.frozen j
              have hI5 : (j : Int) < (a.length : Int) + 1 := by omega
              have HO2 := hidep hO2
              have HRow := hidep hRow
              have HP2 := hidep hp2
              clear hO2 hRow hp2
              go_wp2
              go_roundg j
              case measure => have := HG.out; omega
              case rel =>
                refine ⟨j, fun x => if x = j then wo.heap.size else rb x, by omega, rfl, rfl, ?_, hidep ?_, ?_, (HB.out.trans (hBl.mono (by omega))).setCell (Nat.le_refl _) _⟩
                · refine (HO2.out.set j _).congr (fun x hx => ?_)
                  by_cases h : x = j
                  · simp [h]
                  · by_cases h2 : j + 1 ≤ x
                    · simp [h, h2, show j ≤ x by omega]
                    · simp [h, h2, show ¬ j ≤ x by omega]
                · intro i hi hi2
                  by_cases h : i = j
                  · subst h
                    simp only [if_true]
                    refine (HRow.out.setOther (a := ⟨w.heap.size, i, none⟩) (by show wo.heap.size ≠ w.heap.size; omega) _).congr (fun x _ => by simp)
                  · simp only [if_neg h]
                    have hri := HR.out i (by omega) hi2
                    exact (rowIs_below hri hBl hri.lt).setOther (a := ⟨w.heap.size, j, none⟩) (rowIs_ne hri HO.out (by decide)) _
                · rw [Below.heap_setCell _ _ _ _ (by show w.heap.size + 1 ≠ w.heap.size; omega)]
                  exact HP2.out
            | k + 1, hc2 =>
              rw [show (((k + 1 : Nat) : Int) - 1) = (k : Int) from by omega]
              have hbs := hBl.size
              have hBtot : Below w.heap.size w wr := HB.out.trans (hBl.mono (by omega))
              obtain ⟨ba, oa, rfl, hba, hca1, hca2⟩ := (ha.below hBtot).at (k := j) (by omega)
              obtain ⟨bb, ob, rfl, hbb, hcb1, hcb2⟩ := (hb.below hBtot).at (k := k) (by omega)
              have hD := rowIs_below hHD.out hBl hdlt
              have hd1 := hD.cell (i := k + 1) (by omega)
              have hd2 := hD.cell (i := k) (by omega)
              have hr1 := hRow.cell (i := k) (by omega)
              rw [if_neg (by omega)] at hr1
              have hr2 := hRow.cell (i := k + 1) (by omega)
              rw [if_pos (Nat.le_refl _)] at hr2
              have hr3 := hRow.frozen k
              have hm1 := lcsM_le a b (j + 1) (k + 1)
              have hm2 := lcsM_le a b (j + 1) k
              have hm3 := lcsM_le a b j (k + 1)
              have hM1 : (lcsM a b (j + 1) (k + 1) : Int) ≤ 2048 := by omega
              have hM2 : (lcsM a b (j + 1) k : Int) ≤ 2048 := by omega
              have hM3 : (lcsM a b j (k + 1) : Int) ≤ 2048 := by omega
              have HST := hidep (@lcsM_step a b j k (by omega) (by omega))
              have hI5 : (0 : Int) ≤ (k : Int) := by omega
              have hI6 : (k : Int) < (b.length : Int) := by omega
              have hI7 : (j : Int) < (a.length : Int) := by omega
              have hI8 : (k : Int) < (b.length : Int) + 1 := by omega
              have hI9 : (k : Int) + 1 < (b.length : Int) + 1 := by omega
              have HRow := hidep hRow
              have HBl := hidep hBl
              clear hRow hBl hD hm1 hm2 hm3 hBtot ha hb
              have HFIN : Hid (∀ (v : Value), v = .int .i16 (lcsM a b j k) → ∀ W : World, W.rowIs wo.heap.size 109 (b.length + 1) (fun x => if x = k then v else if k + 1 ≤ x then .int .i16 (lcsM a b j x) else .int .i16 0) → W.rowIs wo.heap.size 109 (b.length + 1) (fun x => if k ≤ x then .int .i16 (lcsM a b j x) else .int .i16 0)) := hidep (by
                rintro v rfl W hW
                refine hW.congr (fun x hx => ?_)
                by_cases h : x = k
                · simp [h]
                · by_cases h2 : k + 1 ≤ x
                  · simp [h, h2, show k ≤ x by omega]
                  · simp [h, h2, show ¬ k ≤ x by omega])
              generalize lcsM a b (j + 1) (k + 1) = M1 at *
              generalize lcsM a b (j + 1) k = M2 at *
              generalize lcsM a b j (k + 1) = M3 at *
              have hax : j < a.length := by omega
              have hbx : k < b.length := by omega
              generalize hX : a[j] = X at *
              generalize hY : b[k] = Y at *
              clear hX hY
              obtain ⟨x1, x2⟩ := X
              obtain ⟨y1, y2⟩ := Y
              simp only at hca1 hca2 hcb1 hcb2
              have hG := run_guard_sym
              by_cases hxy : (⟨x1, x2⟩ : Sym) = ⟨y1, y2⟩
              · have HST := hidep (HST.out.trans (if_pos hxy))
                have hE : ∀ W, (binOp .eql 34 (.agg #[.int .i64 x1, .int .u8 x2]) (.agg #[.int .i64 y1, .int .u8 y2])).run Try.prog W = .ok (.bool true) W := fun W => by
                  rw [run_eql_sym]
                  injection hxy with e1 e2
                  subst e1 e2
                  simp
                clear hxy
                go_wp2
                go_quiet (fail)
                go_wp2
                go_roundg k
                case measure => have := HG2.out; omega
                case rel => exact ⟨k, by omega, rfl, rfl, HFIN.out (.int .i16 (1 + M1)) (by rw [HST.out]; go_num) _ (HRow.out.set k _), below_drewN (HBl.out.setCell (Nat.le_refl _) _) _⟩
              · have HST := hidep (HST.out.trans (if_neg hxy))
                have hE : ∀ W, (binOp .eql 34 (.agg #[.int .i64 x1, .int .u8 x2]) (.agg #[.int .i64 y1, .int .u8 y2])).run Try.prog W = .ok (.bool false) W := fun W => by
                  rw [run_eql_sym]
                  have : ((x1 == y1) && (x2 == y2)) = false := by
                    rw [Bool.and_eq_false_iff]
                    by_cases e1 : x1 = y1
                    · right
                      simpa using fun e2 => hxy (by rw [e1, e2])
                    · left
                      simpa using e1
                  rw [this]
                clear hxy
                go_wp2
                go_quiet (fail)
                go_wp2
                have hne1 : rb (j + 1) ≠ wo.heap.size := by omega
                have hI10 : (0 : Int) ≤ (k : Int) + 1 := by omega
                have HSET : Hid (∀ (W : World) (v : Value), W.cell? ⟨rb (j + 1), k, none⟩ = some (.int .i16 M2) → W.cell? ⟨wo.heap.size, k + 1, none⟩ = some (.int .i16 M3) →
                  (W.setCell ⟨wo.heap.size, k, none⟩ v).cell? ⟨rb (j + 1), k, none⟩ = some (.int .i16 M2) ∧ (W.setCell ⟨wo.heap.size, k, none⟩ v).cell? ⟨wo.heap.size, k + 1, none⟩ = some (.int .i16 M3)) := hidep (fun W v e1 e2 =>
                    ⟨(World.cell?_setCell_other _ _ _ _ (by first | (simp; done) | (simp; omega))).trans e1, (World.cell?_setCell_other _ _ _ _ (by simp)).trans e2⟩)
                have hwr2 : IntKind.i64.wrap ((k : Int) + 1) = (k : Int) + 1 := IntWalk.i64_in _ (by omega)
                go_region_held3 (fun w' => w'.cell? ⟨rb (j + 1), k, none⟩ = some (.int .i16 M2) ∧ w'.cell? ⟨wo.heap.size, k + 1, none⟩ = some (.int .i16 M3)) (first | go_keep | exact HSET.out _ _ (by simpa using hd2) (by simpa using hr2)) (first | fail)
                clear hwr2
                go_wp2
                all_goals
                  go_roundg k
                  case measure => have := HG2.out; omega
                  case rel => exact ⟨k, by omega, rfl, rfl, HFIN.out _ (congrArg (Value.int .i16) (by have := HST.out; omega)) _ (World.rowIs.set (w := wr.drewN _) HRow.out k _), (below_drewN HBl.out _).setCell (Nat.le_refl _) _⟩
end Go.Proofs.Ythdafajhohdkoaa
