/- Contract of package merge: Move, walked where the edits are valid. -/
import Derived.Laws.EntriesVeiled
import Derived.Sort.CutIn
import Derived.Test.YthdafajhohdkoaaMgO
namespace Go.Proofs.Ythdafajhohdkoaa
open Go.RowKit Go.Lab Go.Shelf
attribute [local go_sem] Oper.semAt_some
theorem offE_bd (p : Int) : ∀ l : List Edit, (∀ y ∈ l, 0 ≤ y.del ∧ y.del ≤ 2048 ∧ y.ins.length ≤ 64) → -(2048 * l.length : Int) ≤ offE p l ∧ offE p l ≤ 64 * l.length
  | [], _ => by simp [offE]
  | y :: l, h => by
    have h1 := offE_bd p l (fun z hz => h z (List.mem_cons_of_mem _ hz))
    have h2 := h y (List.mem_cons_self ..)
    rw [offE, List.length_cons]
    split <;> omega
theorem offE_take {p : Int} {l : List Edit} {k : Nat} (h : k < l.length) : offE p (l.take (k + 1)) = offE p (l.take k) + (if l[k].pos + l[k].del < p then (l[k].ins.length : Int) - l[k].del else 0) := by
  rw [List.take_succ_eq_append_getElem h, offE_snoc]
theorem keeps_putObj {T : TypeId → Prop} {W : World} {l : Nat} {o o' : Obj} (h : W.heap[l]? = some o) (ho : o.isCells = false) : Keeps T W (W.putObj l o') := by
  refine ⟨by simp, fun b cur t fz _ hb => ?_⟩
  by_cases e : b = l
  · subst e
    rw [h] at hb
    injection hb with hb
    subst hb
    cases ho
  · exact (World.putObj_heap_other e).trans hb
set_option maxRecDepth 100000 in
set_option maxHeartbeats 4000000 in
theorem move_run (va vb : Value) (av bv : List EV) (w : World) (ha : EvAt w va av) (hb : EvAt w vb bv)
    (hva : validZ 2048 (av.map (·.1)) = true) (hvb : validZ 2048 (bv.map (·.1)) = true) :
    Calls Try.prog 22 #[va, vb] w (MovedR w (av.map (·.1)) (bv.map (·.1))) := by
  obtain ⟨aa, ca, rfl, _, _⟩ := ha.form
  obtain ⟨ab, cb, rfl, hcb, hmb⟩ := hb.form
  unfold maxLen at hmb
  have HA := hidep (fun W (hW : Below w.heap.size w W) => mvalid_any _ 2048 _ W ((ha.below hW).edits) (by omega) (by omega))
  have HB := hidep (fun W (hW : Below w.heap.size w W) => mvalid_any _ 2048 _ W ((hb.below hW).edits) (by omega) (by omega))
  rw [hva] at HA
  rw [hvb] at HB
  have hfw : Fence.wide.fn 22 := trivial
  have hfc : Fence.wide.fn 58 := trivial
  refine (callsIn_wide (n := 8)).1 ?_
  refine callsIn_of_wp_marks Try.func22 rfl hfw ?_ rfl
  simp only [Try.ntmps22, List.size_toArray, List.length_cons, List.length_nil, Nat.reduceAdd, Nat.reduceSub, Array.replicate_succ, Array.replicate_zero, List.push_toArray, List.append_toArray, List.nil_append, List.cons_append]
  have hM0 := VBox.start w
  have HM := hidep hM0.bw
  gi_wp2_with (first
    | (refine ⟨trivial, ?_⟩; gi_at_call 40; (with_reducible refine (callsIn_wide.2 (HA.out _ HM.out)).mono ?_); rintro e w2 ⟨rfl, hb2⟩; have hM2 := hM0.step hb2; clear hM0)
    | (refine ⟨trivial, ?_⟩; gi_at_call 40; (with_reducible refine (callsIn_wide.2 (HB.out _ hM2.bw)).mono ?_); rintro e w3 ⟨rfl, hb3⟩; have hM3 := hM2.step hb3; clear hM2)
    | (refine ⟨trivial, ?_⟩; gi_at_call 42; refine (callsIn_wide.2 (clashes_any _ _ _ _ _ _ _)).mono ?_; rintro e w4 ⟨rfl, rfl⟩)
    | fail)
  have hx3 := hM3.bw
  have ho1 := validZ_ok (by omega) hva
  have ho2 := validZ_ok (by omega) hvb
  have hA4 := (Below.heap_alloc (w3.alloc (.cells #[.slice aa av.length ca] 25)) (.cells #[.slice ab bv.length cb] 25) _ (by simp)).trans (heap_alloc_new w3 (.cells #[.slice aa av.length ca] 25))
  have hB4 : ((w3.alloc (.cells #[.slice aa av.length ca] 25)).alloc (.cells #[.slice ab bv.length cb] 25)).heap[w3.heap.size + 1]? = some (.cells #[.slice ab bv.length cb] 25) := by
    have := heap_alloc_new (w3.alloc (.cells #[.slice aa av.length ca] 25)) (.cells #[.slice ab bv.length cb] 25)
    rwa [World.size_alloc] at this
  have h34 : Below w3.heap.size w3 ((w3.alloc (.cells #[.slice aa av.length ca] 25)).alloc (.cells #[.slice ab bv.length cb] 25)) := ((Below.refl _ _).alloc (Nat.le_refl _) _).alloc (by simp) _
  have hM4 := hM3.step h34
  obtain ⟨w4, hw4⟩ : ∃ w4, (w3.alloc (.cells #[.slice aa av.length ca] 25)).alloc (.cells #[.slice ab bv.length cb] 25) = w4 := ⟨_, rfl⟩
  rw [hw4] at hA4 hB4 h34 hM4 ⊢
  clear hw4 hM3
  have hz4 : w.heap.size ≤ w4.heap.size := hM4.bw.size
  refine wpIn_rangeFunc_ownG rfl (by omega) (gf := 58) (lb := #[.pointer (some ⟨w3.heap.size, 0, none⟩), .pointer (some ⟨w3.heap.size + 1, 0, none⟩)]) rfl hfc (enters_of Try.func58 (by kernel_rfl) rfl)
    (clashes_stops (8 - 1) (by omega) w3.heap.size (w3.heap.size + 1) (av.map (·.1)) (bv.map (·.1)) _ _ (0, 0) (0, 0) ho1 ho2 w4 hA4 hB4 (((ha.below hx3).below h34).edits) (((hb.below hx3).below h34).edits))
    keepsTk_t (keepsTk_b (n := w4.heap.size)) (Below.refl _ _) (fun _ => rfl)
    (fun pre W => pre = [] ∧ VBox w (.slice none 0 0) 0 W)
    (fun cd _ W => cd = .ret ∧ VBox w (.slice none 0 0) 18 W)
    (fun s A B row hs hg hr => ⟨hs.1, hs.2.own hg hz4 hr⟩)
    (fun cd s A B row hs hg hr => ⟨hs.1, hs.2.own hg hz4 hr⟩)
    ⟨rfl, hM4⟩
    (fun x => { tmps := #[.slice aa av.length ca, .slice ab bv.length cb, undef, undef, .pointer (some ⟨w.heap.size, 0, none⟩), .pointer (some ⟨w.heap.size + 1, 0, none⟩), undef, undef, undef, undef, undef, undef, .slice aa av.length ca, .bool true, .bool false, .bool false, .slice ab bv.length cb, .bool true, .bool false, .bool false, .slice aa av.length ca, .slice ab bv.length cb, .func (.func 58) #[] #[.pointer (some ⟨w3.heap.size, 0, none⟩), .pointer (some ⟨w3.heap.size + 1, 0, none⟩)], .agg #[.int .i64 (x.1 : Nat), .int .i64 (x.2 : Nat)], undef, undef, undef, undef, undef, undef, undef, undef, undef, undef, undef, undef, undef, undef, undef, undef, undef, undef, undef, undef, undef, undef, undef, undef, undef, undef, undef, undef, undef, undef, undef, undef, undef, undef, undef, undef, undef, undef, undef, undef, undef, undef, undef, undef, undef, undef], defers := [] }) ?assign ?body ?done ?stop
  case assign =>
    intro l x W K hK
    gi_wp2
    exact hK
  case body =>
    rintro l pre x W ⟨rfl, hM⟩ _
    have c6 := hM.b4.cell
    have c7 := hM.b5.cell
    have f6 := hM.b4.frozen
    have f7 := hM.b5.frozen
    have HC := hidep (hM.put (.slice none 0 0) 18)
    gi_wp2
    exact ⟨HC.out.2.from _, rfl, HC.out.1⟩
  case stop =>
    rintro D cd pre W hD ⟨hpre, hne⟩ ⟨rfl, hX⟩ hK
    have HX := hidep hX
    have hNE : clashP (av.map (·.1)) (bv.map (·.1)) ≠ [] := fun e => by rw [e] at hpre; exact hne (List.prefix_nil.1 hpre)
    have HZ : Hid (moveZ (av.map (·.1)) (bv.map (·.1)) = ([], 18)) := hidep (by unfold moveZ; rw [hva, hvb, if_neg (by decide), if_pos hNE])
    clear hNE
    gi_wp2
    refine ⟨by simp, .inl ⟨_, _, rfl, run_takeDeferred hK, ?_⟩⟩
    have hX' := HX.out.own (grownBy_putObj' W D (.deferred none)) hz4 (fun r e => by cases e; exact ⟨hD, _, hK, rfl⟩)
    have c6 := hX'.b4.cell
    have c7 := hX'.b5.cell
    refine ⟨_, results_cells2 rfl _ _ _ rfl rfl (v1 := .slice none 0 0) (v2 := .int .i64 18) (by go_simp) (by go_simp), ?_⟩
    exact ⟨_, by rw [HZ.out], by rw [HZ.out]; exact EditsAt.nil _, hX'.bw⟩
  case done =>
    rintro D ys W hD rfl ⟨hnil, hM⟩ hK
    have hEa := ha.below hM.bw
    have hEb := hb.below hM.bw
    have hla := validZ_len hva
    have hlb := validZ_len hvb
    rw [List.length_map] at hla hlb
    have HZ : Hid (moveZ (av.map (·.1)) (bv.map (·.1)) = ((((av.map (·.1)).filter fun x => !memB (bv.map (·.1)) x).map (shiftE (bv.map (·.1)))), 0)) := hidep (by unfold moveZ; rw [hva, hvb, if_neg (by decide), if_neg (by simp [hnil])])
    have hin := validZ_in (n := 2048) hvb
    have hia := validZ_in (n := 2048) hva
    have HW := hidep (without_any _ _ av bv W hEa hEb (by omega))
    have hKl := lt_of_block hK
    clear hnil
    have hWL : ∀ x ∈ av.filter (fun x => !memB (bv.map (·.1)) x.1), InE 2048 x.1 := fun x hx => hia _ (List.mem_map_of_mem (List.mem_filter.1 hx).1)
    have hWn : (av.filter fun x => !memB (bv.map (·.1)) x.1).length ≤ 32 := Nat.le_trans (List.length_filter_le _ _) hla
    have HZ2 : Hid (moveZ (av.map (·.1)) (bv.map (·.1)) = (((av.filter fun x => !memB (bv.map (·.1)) x.1).map (·.1)).map (shiftE (bv.map (·.1))), 0)) := hidep (by rw [HZ.out, List.filter_map]; rfl)
    clear HZ hia
    generalize (av.filter fun x => !memB (bv.map (·.1)) x.1) = wl at *
    dsimp only [Exit.inBlock, Exit.then]
    apply_assumption
    refine wpIn_wide.2 ?_
    go_wp2_with (go_at_call 43; refine HW.out.mono ?_; rintro e W1 ⟨u, rfl, hu, hb1⟩; have HU := hidep hu; obtain ⟨au, cu, rfl, hcu, hmu⟩ := hu.form; unfold maxLen at hmu; clear hu)
    have hBd : ∀ j, j ≤ bv.length → ∀ p, -(2048 * 32 : Int) ≤ offE p ((bv.map (·.1)).take j) ∧ offE p ((bv.map (·.1)).take j) ≤ 64 * 32 := fun j hj p => by
      have := offE_bd p ((bv.map (·.1)).take j) (fun y hy => by have := hin y (List.mem_of_mem_take hy); exact ⟨this.2.2.1, by have := this.2.2.2.1; omega, this.2.2.2.2⟩)
      have hl : ((bv.map (·.1)).take j).length ≤ 32 := by rw [List.length_take, List.length_map]; omega
      omega
    go_loopw [6, 28] (fun o i wr => ∃ (k : Nat) (lst : List EV), k ≤ wl.length ∧ i = .int .i64 k ∧ OwnEv wr W1.heap.size o lst ∧ lst.length = k ∧ Hid (lst.map (·.1) = ((wl.take k).map (·.1)).map (shiftE (bv.map (·.1)))) ∧ Below W1.heap.size W1 wr) (fun _ i _ => wl.length - (intOf i).toNat)
    case atStart => exact ⟨0, [], Nat.zero_le _, rfl, ⟨World.ownsRow_nil _ _ _ _, by simp⟩, rfl, hidep (by simp), Below.refl _ _⟩
    case round =>
      obtain ⟨k, lst, hk, rfl, hown, hlk, HL, hbw⟩ := hrel
      have hlk2 : lst.length ≤ 32 := by omega
      have HLK := hidep hlk
      clear hlk
      obtain ⟨ao, co, rfl, _, _⟩ := hown.at.form
      by_cases hlt : k < wl.length
      · obtain ⟨bx, ox, rfl, hbx, hc0, hc1, hc2⟩ := rdEv_at (HU.out.1.below hbw) hlt
        have hm := List.getElem_mem hlt
        have hsy := (HU.out.2 _ hm).below hbw
        obtain ⟨g1, g2, g3, g4, g5⟩ := hWL _ hm
        have HSH : Hid (∀ x, wl[k] = x → ((wl.take (k + 1)).map (·.1)).map (shiftE (bv.map (·.1))) = ((wl.take k).map (·.1)).map (shiftE (bv.map (·.1))) ++ [shiftE (bv.map (·.1)) x.1]) := hidep (by
          rintro x rfl
          rw [List.take_succ_eq_append_getElem hlt, List.map_append, List.map_append]; rfl)
        have HSH' := hidep (HSH.out _ rfl)
        clear hm HSH
        generalize wl[k] = x at *
        obtain ⟨⟨p, d, ins⟩, ux⟩ := x
        simp only at hc0 hc1 hc2 hsy g1 g2 g3 g4 g5 HSH'
        obtain ⟨ax, cx, rfl, _, _⟩ := hsy.form
        obtain ⟨wo, hwo⟩ : ∃ wo : World, wo = wr := ⟨_, rfl⟩
        subst hwo
        have hbo : Below wo.heap.size wo (wo.alloc (.cells #[.int .i64 p, .int .i64 d, .slice ax ins.length cx] 36)) := (Below.refl _ _).alloc (Nat.le_refl _) _
        have HBO := hidep hbo
        have HN := hidep (heap_alloc_new wo (.cells #[.int .i64 p, .int .i64 d, .slice ax ins.length cx] 36))
        clear hbo
        go_wp2
        go_loopw [9, 34] (fun n i wi => ∃ j : Nat, j ≤ bv.length ∧ i = .int .i64 j ∧ n = .int .i64 (offE p ((bv.map (·.1)).take j)) ∧ Below (wo.alloc (.cells #[.int .i64 p, .int .i64 d, .slice ax ins.length cx] 36)).heap.size (wo.alloc (.cells #[.int .i64 p, .int .i64 d, .slice ax ins.length cx] 36)) wi) (fun _ i _ => bv.length - (intOf i).toNat)
        case atStart => exact ⟨0, Nat.zero_le _, rfl, by simp [offE], Below.refl _ _⟩
        case round =>
          obtain ⟨j, hj, rfl, rfl, hbi⟩ := hrel
          have hwi : Below W.heap.size W wr := (hb1.trans (hbw.mono hb1.size)).trans ((HBO.out.trans (hbi.mono (by simp))).mono (by have := hb1.size; have := hbw.size; omega))
          have h8 := (hbi.block _ (by simp)).trans HN.out
          obtain ⟨h80, h81, h82⟩ := box3_cell h8
          have h8l := lt_of_block h8
          have hbd := hBd j hj p
          by_cases hlj : j < bv.length
          · obtain ⟨by_, oy, rfl, hby, hd0, hd1, hd2⟩ := rdEv_at ((hEb.below hwi).1) hlj
            have hm := List.getElem_mem hlj
            have hsy2 := (hEb.2 _ hm).below hwi
            obtain ⟨q1, q2, q3, q4, q5⟩ := hin _ (List.mem_map_of_mem hm)
            have HO : Hid (∀ y : EV, bv[j] = y → offE p ((bv.map (·.1)).take (j + 1)) = offE p ((bv.map (·.1)).take j) + (if y.1.pos + y.1.del < p then (y.1.ins.length : Int) - y.1.del else 0)) := hidep (by
              rintro y rfl
              have := offE_take (p := p) (l := bv.map (·.1)) (k := j) (by simpa using hlj)
              simpa using this)
            have HO' := hidep (HO.out _ rfl)
            clear hm HO
            generalize bv[j] = y at *
            obtain ⟨⟨p', d', ins'⟩, uy⟩ := y
            simp only at hd0 hd1 hd2 hsy2 q1 q2 q3 q4 q5 HO'
            obtain ⟨ay, cy, rfl, _, _⟩ := hsy2.form
            clear hsy2
            have hbi2 : Below (wo.alloc (.cells #[.int .i64 p, .int .i64 d, .slice ax ins.length cx] 36)).heap.size (wo.alloc (.cells #[.int .i64 p, .int .i64 d, .slice ax ins.length cx] 36)) (wr.alloc (.cells #[.int .i64 p', .int .i64 d', .slice ay ins'.length cy] 36)) := hbi.alloc hbi.size _
            have HB2 := hidep hbi2
            clear hbi2
            by_cases hc : p' + d' < p
            · rw [if_pos hc] at HO'
              generalize offE p ((bv.map (·.1)).take j) = oj at *
              go_wp2
              go_roundw
              case rel => exact ⟨j + 1, by omega, by go_num, by rw [HO'.out], HB2.out⟩
              case measure => simp [intOf]; omega
            · rw [if_neg hc, Int.add_zero] at HO'
              generalize offE p ((bv.map (·.1)).take j) = oj at *
              go_wp2
              go_roundw
              case rel => exact ⟨j + 1, by omega, by go_num, by rw [HO'.out], HB2.out⟩
              case measure => simp [intOf]; omega
          · have hjl : j = bv.length := by omega
            subst hjl
            have HOE : Hid (offE p ((bv.map (·.1)).take bv.length) = offE p (bv.map (·.1))) := hidep (by rw [show bv.length = (bv.map (·.1)).length by simp, List.take_length])
            rw [HOE.out] at hbd ⊢
            generalize hoE : offE p (bv.map (·.1)) = oE at *
            have HOQ := hidep hoE
            clear hoE HOE hlj
            go_upto_region 16 with (fail)
            have hor : Below wo.heap.size wo wr := HBO.out.trans (hbi.mono (by simp))
            have howr := hown.below hor
            have hsyr := hsy.below hor
            have HOL : Hid (∀ g, (Value.slice ao lst.length co).ownBlock = some g → g < wo.heap.size ∧ W1.heap.size ≤ g) := hidep (fun g hg => ⟨(hown.1.lt g hg).2, (hown.1.lt g hg).1⟩)
            have HBW := hidep (hbw.trans (hor.mono hbw.size))
            have HCS : Hid (∀ X, Below wr.heap.size wr X → Calls Try.prog 44 #[.slice ax ins.length cx] X fun e w' => ∃ a1 c1, e = .returned (.slice a1 ins.length c1) ∧ SymsAt w' (.slice a1 ins.length c1) ins ∧ OwnEv w' W1.heap.size (.slice ao lst.length co) lst ∧ Below wr.heap.size wr w' ∧
                w'.cell? ⟨wo.heap.size, 0, none⟩ = some (.int .i64 p) ∧ w'.cell? ⟨wo.heap.size, 1, none⟩ = some (.int .i64 d) ∧ w'.cell? ⟨wo.heap.size, 2, none⟩ = some (.slice ax ins.length cx)) := hidep (fun X hX =>
              (cloneS_any _ ins X (hsyr.below hX) (by omega)).mono (fun e w' ⟨u1, he, hcl, hb2⟩ => by
                have hs := SymsAt.of_own hcl
                obtain ⟨a1, c1, rfl, _, _⟩ := hs.form
                have hw := hX.trans (hb2.mono hX.size)
                exact ⟨a1, c1, he, hs, howr.below hw, hw, (hw.cell (p := ⟨wo.heap.size, 0, none⟩) h8l).trans h80, (hw.cell (p := ⟨wo.heap.size, 1, none⟩) h8l).trans h81, (hw.cell (p := ⟨wo.heap.size, 2, none⟩) h8l).trans h82⟩))
            have hwr1 : IntKind.i64.wrap (p + oE) = p + oE := IntWalk.i64_in _ (by omega)
            clear hown hsy hwi hor hc0 hc1 hc2 howr hsyr
            go_region_held3 (fun w' => w'.cell? ⟨wo.heap.size, 0, none⟩ = some (.int .i64 p) ∧ w'.cell? ⟨wo.heap.size, 1, none⟩ = some (.int .i64 d) ∧ w'.cell? ⟨wo.heap.size, 2, none⟩ = some (.slice ax ins.length cx))
              (first | exact ⟨h80, h81, h82⟩ | exact ⟨e80, e81, e82⟩ | exact ⟨j80, j81, j82⟩ | go_keep)
              (first
                | (go_at_call 44; refine (HCS.out _ (by exact (Below.refl _ _).drew)).mono ?_; rintro e w1 ⟨a1, c1, rfl, hsa, hown1, hbc1, e80, e81, e82⟩; dsimp only)
                | (have hxa : Below w1.heap.size w1 (w1.alloc (.cells #[.int .i64 (p + oE), .int .i64 d, .slice a1 ins.length c1] 36)) := (Below.refl _ _).alloc (Nat.le_refl _) _; have how2 := hown1.below hxa; have hfr := Rd.fresh w1 #[.int .i64 (p + oE), .int .i64 d, .slice a1 ins.length c1] 36 3 1 rfl (by decide); refine step_append_rd _ (by rfl) (.tmp 55) (.tmp 66) (by rfl) slEdits W1.heap.size (.slice ao lst.length co) _ _ (by rfl) (by exact how2.1) _ _ _ _ (by rfl) (by exact hfr) (by intro u hu; simp at hu; rcases hu with rfl | rfl | rfl <;> rfl) (by unfold maxLen; omega) (by omega) (by have := HBW.out.size; have := hbc1.size; simp; omega) ?_; intro v2 w2 hown3 hgr2 hat hnl; clear hat hnl hfr; have hsz1 : wo.heap.size < w1.heap.size := Nat.lt_of_lt_of_le h8l hbc1.size; have j80 : w2.cell? ⟨wo.heap.size, 0, none⟩ = some (.int .i64 p) := hgr2.cell (by exact (hxa.cell (p := ⟨wo.heap.size, 0, none⟩) hsz1).trans e80) (fun e => absurd (HOL.out _ e.symm).1 (Nat.lt_irrefl _)); have j81 : w2.cell? ⟨wo.heap.size, 1, none⟩ = some (.int .i64 d) := hgr2.cell (by exact (hxa.cell (p := ⟨wo.heap.size, 1, none⟩) hsz1).trans e81) (fun e => absurd (HOL.out _ e.symm).1 (Nat.lt_irrefl _)); have j82 : w2.cell? ⟨wo.heap.size, 2, none⟩ = some (.slice ax ins.length cx) := hgr2.cell (by exact (hxa.cell (p := ⟨wo.heap.size, 2, none⟩) hsz1).trans e82) (fun e => absurd (HOL.out _ e.symm).1 (Nat.lt_irrefl _)); have hfin := OwnEv.snoc (x := (⟨p + oE, d, ins⟩, .slice a1 ins.length c1)) how2 (hsa.below hxa) hown3 hgr2; have hbf : Below W1.heap.size W1 w2 := (HBW.out.trans ((hbc1.trans (hxa.mono hbc1.size)).mono HBW.out.size)).grown hgr2 (by have := HBW.out.size; have := hbc1.size; simp; omega) (fun g hg => (HOL.out g hg).2); dsimp only)
                | fail)
            all_goals
              clear hwr1
              go_wp2
              go_roundw
              case rel => exact ⟨k + 1, _, by omega, by go_num, hfin, by rw [List.length_append, HLK.out]; rfl, hidep (by rw [List.map_append, HL.out, HSH'.out, ← HOQ.out]; rfl), hbf⟩
              case measure => simp [intOf]; omega
      · have hkl : k = wl.length := by omega
        have HL2 : Hid (lst.map (·.1) = (wl.map (·.1)).map (shiftE (bv.map (·.1)))) := hidep (by rw [HL.out, hkl, List.take_length])
        have hwr := hb1.trans (hbw.mono hb1.size)
        have hV := hM.step hwr
        have c4 := hV.b4.cell
        have c5 := hV.b5.cell
        have f4 := hV.b4.frozen
        have f5 := hV.b5.frozen
        have HPT := hidep (hV.put (.slice ao lst.length co) 0)
        have HK1 := hidep ((hwr.block D hKl).trans hK)
        have HE : Hid (EditsAt (((wr.setCell ⟨w.heap.size, 0, none⟩ (.slice ao lst.length co)).setCell ⟨w.heap.size + 1, 0, none⟩ (.int .i64 0))) (.slice ao lst.length co) (lst.map (·.1))) := hidep (by
          have h1 := (Keeps.setCell (T := fun t => t = 36 ∨ t = 34) (a := ⟨w.heap.size, 0, none⟩) hV.b4 (fun _ hs e => by rcases hs with rfl | rfl <;> exact absurd e (by decide)) (.slice ao lst.length co))
          have h2 := (Keeps.setCell (T := fun t => t = 36 ∨ t = 34) (a := ⟨w.heap.size + 1, 0, none⟩) (hV.b5.other (show w.heap.size + 1 ≠ w.heap.size by omega) (.slice ao lst.length co)) (fun _ hs e => by rcases hs with rfl | rfl <;> exact absurd e (by decide)) (.int .i64 0))
          exact hown.at.edits.keeps (h1.trans h2) (.inr rfl) (.inl rfl))
        clear hkl hV hwr hown
        go_wp2
        have hK3 := HPT.out.2.same D _ HK1.out rfl
        have hz1 := HPT.out.1
        have hX' := hz1.own (grownBy_putObj' _ D (.deferred none)) hz4 (fun r e => by cases e; exact ⟨hD, _, hK3, rfl⟩)
        refine ⟨by simp, .inl ⟨_, _, rfl, run_takeDeferred hK3, ?_⟩⟩
        have e4 := hX'.b4.cell
        have e5 := hX'.b5.cell
        refine ⟨_, results_cells2 rfl _ _ _ rfl rfl (v1 := .slice ao lst.length co) (v2 := .int .i64 0) (by go_simp) (by go_simp), ?_⟩
        have hE2 := HE.out.keeps (keeps_putObj (T := fun t => t = 36 ∨ t = 34) (o' := .deferred none) hK3 rfl) (.inr rfl) (.inl rfl)
        exact ⟨_, by rw [HZ2.out], by rw [HZ2.out, ← HL2.out]; exact hE2, hX'.bw⟩
set_option maxRecDepth 100000 in
set_option maxHeartbeats 2000000 in
theorem move_any (va vb : Value) (a b : List Edit) (w : World) (ha : EditsAt w va a) (hb : EditsAt w vb b) :
    Calls Try.prog 22 #[va, vb] w (MovedR w a b) := by
  obtain ⟨av, rfl, hav⟩ := ha.ev
  obtain ⟨bv, rfl, hbv⟩ := hb.ev
  by_cases hall : (validZ 2048 (av.map (·.1)) && validZ 2048 (bv.map (·.1))) = true
  · have h2 := hall
    simp only [Bool.and_eq_true] at h2
    exact move_run va vb av bv w hav hbv h2.1 h2.2
  · have hf : (validZ 2048 (av.map (·.1)) && validZ 2048 (bv.map (·.1))) = false := by simpa using hall
    have HZ : Hid (moveZ (av.map (·.1)) (bv.map (·.1)) = ([], 1)) := hidep (if_pos hf)
    obtain ⟨aa, ca, rfl, _, _⟩ := hav.form
    obtain ⟨ab, cb, rfl, _, _⟩ := hbv.form
    have hM0 := VBox.start w
    have HM := hidep hM0.bw
    have HA := hidep (fun W (hW : Below w.heap.size w W) => mvalid_any _ 2048 _ W ((hav.below hW).edits) (by omega) (by omega))
    have HB := hidep (fun W (hW : Below w.heap.size w W) => mvalid_any _ 2048 _ W ((hbv.below hW).edits) (by omega) (by omega))
    clear hall ha hb hav hbv
    generalize validZ 2048 (av.map (·.1)) = va at *
    generalize validZ 2048 (bv.map (·.1)) = vb at *
    cases va
    · go_enter Try.func22, Try.ntmps22
      go_wp2_with (first
        | (go_at_call 40; (with_reducible refine (HA.out _ HM.out).mono ?_); rintro e w2 ⟨rfl, hb2⟩; have hM2 := hM0.step hb2; clear hM0; have c4 := hM2.b4.cell; have c5 := hM2.b5.cell; have f4 := hM2.b4.frozen; have f5 := hM2.b5.frozen; have HPT := hidep (hM2.put (.slice none 0 0) 1))
        | fail)
      have hR := HPT.out.1
      have e4 := hR.b4.cell
      have e5 := hR.b5.cell
      refine bodyPost_ret (results_cells2 rfl _ _ _ rfl rfl (v1 := .slice none 0 0) (v2 := .int .i64 1) (by go_simp) (by go_simp)) rfl ?_
      exact ⟨_, by rw [HZ.out], by rw [HZ.out]; exact EditsAt.nil _, hR.bw⟩
    · cases vb
      · go_enter Try.func22, Try.ntmps22
        go_wp2_with (first
          | (go_at_call 40; (with_reducible refine (HA.out _ HM.out).mono ?_); rintro e w2 ⟨rfl, hb2⟩; have hM2 := hM0.step hb2; clear hM0)
          | (go_at_call 40; (with_reducible refine (HB.out _ hM2.bw).mono ?_); rintro e w3 ⟨rfl, hb3⟩; have hM3 := hM2.step hb3; clear hM2; have c4 := hM3.b4.cell; have c5 := hM3.b5.cell; have f4 := hM3.b4.frozen; have f5 := hM3.b5.frozen; have HPT := hidep (hM3.put (.slice none 0 0) 1))
          | fail)
        have hR := HPT.out.1
        have e4 := hR.b4.cell
        have e5 := hR.b5.cell
        refine bodyPost_ret (results_cells2 rfl _ _ _ rfl rfl (v1 := .slice none 0 0) (v2 := .int .i64 1) (by go_simp) (by go_simp)) rfl ?_
        exact ⟨_, by rw [HZ.out], by rw [HZ.out]; exact EditsAt.nil _, hR.bw⟩
      · cases hf
end Go.Proofs.Ythdafajhohdkoaa
