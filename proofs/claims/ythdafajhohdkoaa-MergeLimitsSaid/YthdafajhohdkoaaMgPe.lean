/- Contract of the reference of package merge: Move, walked. -/
import Derived.Test.YthdafajhohdkoaaMgPa
import Derived.Test.YthdafajhohdkoaaMgPc
import Derived.Test.YthdafajhohdkoaaMgS
import Derived.Test.YthdafajhohdkoaaMgD
import Derived.Test.YthdafajhohdkoaaMgP
namespace Go.Proofs.Ythdafajhohdkoaa
open Go.RowKit Go.Lab
theorem filter_step {a b : List Edit} {k : Nat} (h : k < a.length) (x : Edit) (hx : a[k] = x) : (((a.take (k + 1)).filter fun y => !memB b y).map (shiftE b)) = ((a.take k).filter fun y => !memB b y).map (shiftE b) ++ (if memB b x then [] else [shiftE b x]) := by
  rw [List.take_succ_eq_append_getElem h, List.filter_append, List.map_append, hx]
  cases hm : memB b x <;> simp [hm]
theorem box3_set1 {w : World} {b : Nat} {x y z : Value} {t : TypeId} (h : w.heap[b]? = some (.cells #[x, y, z] t (0, 0))) (n : Nat) (u : Value) : ((w.drewN n).setCell ⟨b, 0, none⟩ u).heap[b]? = some (.cells #[u, y, z] t (0, 0)) := by
  simp [World.setCell, Array.getElem?_modify, h]
set_option maxRecDepth 100000 in
set_option maxHeartbeats 4000000 in
theorem move34_run (va vb : Value) (a b : List Edit) (w : World) (ha : EditsAt w va a) (hb : EditsAt w vb b) (hva : validZ 2048 a = true) (hvb : validZ 2048 b = true) :
    Calls Try.prog 29 #[va, vb] w (MovedR w a b) := by
  obtain ⟨aa, ca, rfl, hca, hma⟩ := ha.form
  obtain ⟨ab, cb, rfl, hcb, hmb⟩ := hb.form
  unfold maxLen at hma hmb
  have HA := hidep (fun W (hW : Below w.heap.size w W) => valid34_any _ 2048 a W (ha.below hW) (by omega) (by omega))
  have HB := hidep (fun W (hW : Below w.heap.size w W) => valid34_any _ 2048 b W (hb.below hW) (by omega) (by omega))
  have HC := hidep (fun W (hW : Below w.heap.size w W) => pairs34_any _ _ a b W (ha.below hW) (hb.below hW) (validZ_ok (n := 2048) (by omega) hva) (validZ_ok (n := 2048) (by omega) hvb) (clashP_len (n := 2048) (m := 2048) hva hvb))
  rw [hva] at HA
  rw [hvb] at HB
  have hla := validZ_len hva
  have hlb := validZ_len hvb
  have HZ : Hid (moveZ a b = if clashP a b ≠ [] then ([], 18) else ((a.filter fun x => !memB b x).map (shiftE b), 0)) := hidep (by unfold moveZ; rw [hva, hvb, if_neg (by decide)])
  have hia := validZ_in (n := 2048) hva
  have hib := validZ_in (n := 2048) hvb
  have HEA := hidep ha
  have HEB := hidep hb
  have HHA := hidep (fun W (hW : Below w.heap.size w W) (u : Value) (x : Edit) (hu : SymsAt W u x.ins) => has_any _ u b x W (hb.below hW) hu)
  clear ha hb hva hvb
  go_enter Try.func29, Try.ntmps29
  go_upto_region 3 with (first
    | (go_at_call 24; (with_reducible refine (HA.out _ (Below.refl _ _)).mono ?_); clear HA; rintro e w2 ⟨rfl, hb2⟩)
    | (go_at_call 24; (with_reducible refine (HB.out _ hb2).mono ?_); rintro e w3 ⟨rfl, hb3⟩; have hb13 := hb2.trans (hb3.mono hb2.size); clear hb2 hb3)
    | fail)
  by_cases hcl : clashP a b = []
  · rw [if_neg (by simp [hcl])] at HZ
    rw [hcl] at HC
    go_upto_region 5 with (first
      | (go_at_call 50; (with_reducible refine (HC.out _ hb13).mono ?_); rintro e w4 ⟨vo, rfl, ho4, hb4⟩; obtain ⟨a4, c4, rfl, _, _⟩ := (Rd.of_own ho4).form; simp only [List.length_nil] at ho4 ⊢)
      | fail)
    have HW4 := hidep (hb13.trans (hb4.mono hb13.size))
    clear ho4 hb4 hb13 HB HC hcl
    obtain ⟨w0, hw0⟩ : ∃ w0 : World, w0 = w4 := ⟨_, rfl⟩
    subst hw0
    have hBd : ∀ j, j ≤ b.length → ∀ p, -(2048 * 32 : Int) ≤ offE p (b.take j) ∧ offE p (b.take j) ≤ 64 * 32 := fun j hj p => by
      have := offE_bd p (b.take j) (fun y hy => by have := hib y (List.mem_of_mem_take hy); exact ⟨this.2.2.1, by have := this.2.2.2.1; omega, this.2.2.2.2⟩)
      have hl : (b.take j).length ≤ 32 := by rw [List.length_take]; omega
      omega
    go_wp2
    go_loopw [6, 7] (fun o i wr => ∃ (k : Nat) (lst : List EV), k ≤ a.length ∧ i = .int .i64 k ∧ OwnEv wr w0.heap.size o lst ∧ lst.length ≤ k ∧ Hid (lst.map (·.1) = ((a.take k).filter fun y => !memB b y).map (shiftE b)) ∧ Below w0.heap.size w0 wr) (fun _ i _ => a.length - (intOf i).toNat)
    case atStart => exact ⟨0, [], Nat.zero_le _, rfl, ⟨World.ownsRow_nil _ _ _ _, by simp⟩, Nat.le_refl _, hidep (by simp), Below.refl _ _⟩
    case round =>
      obtain ⟨k, lst, hk, rfl, hown, hlk, HL, hbw⟩ := hrel
      have HLK := hidep hlk
      have hlk2 : lst.length ≤ 32 := by omega
      clear hlk
      obtain ⟨ao, co, rfl, _, _⟩ := hown.at.form
      obtain ⟨wo, hwo⟩ : ∃ wo : World, wo = wr := ⟨_, rfl⟩
      subst hwo
      have HW0 := hidep (HW4.out.trans (hbw.mono HW4.out.size))
      by_cases hlt : k < a.length
      · obtain ⟨bx, ox, ux, nx, cx, rfl, hbx, hc0, hc1, hc2, hs⟩ := edits_get (HEA.out.below HW0.out) hlt
        obtain ⟨g1, g2, g3, g4, g5⟩ := hia _ (List.getElem_mem hlt)
        have HST := hidep (filter_step (b := b) hlt _ rfl)
        generalize a[k] = x at *
        obtain ⟨p, d, ins⟩ := x
        simp only at hc0 hc1 hs g1 g2 g3 g4 g5
        have hI : 0 ≤ (k : Int) := by omega
        have hI1 : (k : Int) < (a.length : Int) := by omega
        have HHX := hidep (HHA.out wo HW0.out (.slice ux nx cx) ⟨p, d, ins⟩ hs)
        simp only [editV] at HHX
        cases hm : memB b ⟨p, d, ins⟩
        · rw [hm] at HHX
          have HST' : Hid (((a.take (k + 1)).filter fun y => !memB b y).map (shiftE b) = ((a.take k).filter fun y => !memB b y).map (shiftE b) ++ [shiftE b ⟨p, d, ins⟩]) := hidep (by rw [HST.out, hm]; rfl)
          clear hm HST
          have HS := hidep hs
          have HOW := hidep hown
          clear hs hown
          go_wp2_with (first
            | (go_at_call 18; (with_reducible refine HHX.out.mono ?_); rintro e w1 ⟨rfl, hb1⟩; have hcc0 := (hb1.cell (p := ⟨bx, ox + k * 3, none⟩) hbx).trans hc0; have hcc1 := (hb1.cell (p := ⟨bx, ox + k * 3 + 1, none⟩) hbx).trans hc1; have hcc2 := (hb1.cell (p := ⟨bx, ox + k * 3 + 2, none⟩) hbx).trans hc2; clear hc0 hc1 hc2)
            | fail)
          have HN1 := hidep (heap_alloc_new w1 (.cells #[.int .i64 p, .int .i64 d, .slice ux nx cx] 36))
          have hA1 := hidep (show Below w1.heap.size w1 (w1.alloc (.cells #[.int .i64 p, .int .i64 d, .slice ux nx cx] 36)) from (Below.refl _ _).alloc (Nat.le_refl _) _)
          have hbx1 : bx < w1.heap.size := Nat.lt_of_lt_of_le hbx hb1.size
          have HW1 := hidep (HW0.out.trans (hb1.mono HW0.out.size))
          go_loopw [9] (fun i wi => ∃ j : Nat, j ≤ b.length ∧ i = .int .i64 j ∧ wi.heap[w1.heap.size]? = some (.cells #[.int .i64 (p + offE p (b.take j)), .int .i64 d, .slice ux nx cx] 36 (0, 0)) ∧ Below w1.heap.size w1 wi) (fun i _ => b.length - (intOf i).toNat)
          case atStart => exact ⟨0, Nat.zero_le _, rfl, by simpa [offE] using HN1.out, hA1.out⟩
          case round =>
            obtain ⟨j, hj, rfl, h8, hbi⟩ := hrel
            obtain ⟨h80, h81, h82⟩ := box3_cell h8
            have f80 := box_free0 (o := 0) h8
            have h8l := lt_of_block h8
            have hbd := hBd j hj p
            by_cases hlj : j < b.length
            · obtain ⟨by_, oy, uy, ny, cy, rfl, hby, hd0, hd1, hd2, hs'⟩ := edits_get (HEB.out.below (HW1.out.trans (hbi.mono HW1.out.size))) hlj
              have HO := hidep (offE_take (p := p) hlj)
              obtain ⟨q1, q2, q3, q4, q5⟩ := hib _ (List.getElem_mem hlj)
              have hny := hs'.form
              generalize b[j] = y at *
              obtain ⟨p', d', ins'⟩ := y
              simp only at hd0 hd1 hs' q1 q2 q3 q4 q5 HO hny
              obtain ⟨_, _, hsl, _, _⟩ := hny
              injection hsl with _ hn1 _
              subst hn1
              have hJ : 0 ≤ (j : Int) := by omega
              have hJ1 : (j : Int) < (b.length : Int) := by omega
              have hcd0 := (hbi.cell (p := ⟨bx, ox + k * 3, none⟩) hbx1).trans hcc0
              clear hs'
              have H8 := hidep h8
              clear h8
              generalize hc8 : w1.heap.size = c8 at *
              go_upto_region 14 with (fail)
              by_cases hc : p' + d' < p
              · rw [if_pos hc] at HO
                generalize offE p (b.take j) = oj at *
                go_quiet (fail)
                go_upto_region 15 with (fail)
                go_region
                all_goals
                  go_wp2
                  go_roundw
                  case rel => exact ⟨j + 1, by omega, by go_num, (by
                    rw [HO.out, show p + (oj + ((ins'.length : Int) - d')) = p + oj + (ins'.length : Int) - d' by omega]
                    exact box3_set1 H8.out _ _), (below_drewN hbi _).setCell (p := ⟨c8, 0, none⟩) (Nat.le_refl _) _⟩
                  case measure => simp [intOf]; omega
              · rw [if_neg hc, Int.add_zero] at HO
                generalize offE p (b.take j) = oj at *
                go_quiet (fail)
                go_wp2
                go_roundw
                case rel => exact ⟨j + 1, by omega, by go_num, by rw [HO.out]; exact H8.out, below_drewN hbi _⟩
                case measure => simp [intOf]; omega
            · have hjl : j = b.length := by omega
              subst hjl
              rw [List.take_length] at h80
              have hor := hb1.trans (hbi.mono hb1.size)
              have howr := HOW.out.below hor
              have hsyr := HS.out.below hor
              have HBW := hidep (hbw.trans (hor.mono hbw.size))
              generalize hoE : offE p b = oE at *
              have HOQ := hidep hoE
              clear hoE hbi h8 hor hbd
              obtain ⟨c8, hc8⟩ : ∃ c8, w1.heap.size = c8 := ⟨_, rfl⟩
              rw [hc8] at h80 h81 h82 f80 h8l ⊢
              have hxa := hidep (show Below wr.heap.size wr (wr.alloc (.cells #[.int .i64 (p + oE), .int .i64 d, .slice ux nx cx] 36)) from (Below.refl _ _).alloc (Nat.le_refl _) _)
              have how2 := howr.below hxa.out
              have hfr := Rd.fresh wr #[.int .i64 (p + oE), .int .i64 d, .slice ux nx cx] 36 3 1 rfl (by decide)
              go_wp2_with (first
                | (at_builtin; refine wpList_append_rd _ rfl (.tmp 78) (.tmp 80) rfl slEdits w0.heap.size (.slice ao lst.length co) _ _ rfl how2.1 _ _ _ _ rfl hfr (by intro u hu; simp at hu; rcases hu with rfl | rfl | rfl <;> rfl) (by unfold maxLen; omega) (by omega) (by have := HBW.out.size; simp; omega) ?_; intro v2 w2 hown3 hgr2 hat hnl; clear hat hnl hfr)
                | fail)
              have hfin := OwnEv.snoc (x := (⟨p + oE, d, ins⟩, .slice ux nx cx)) how2 (hsyr.below hxa.out) hown3 hgr2
              have hbf : Below w0.heap.size w0 w2 := (HBW.out.trans (hxa.out.mono HBW.out.size)).grown hgr2 (by have := HBW.out.size; simp; omega) (fun g hg => (howr.1.lt g hg).1)
              go_roundw
              case rel => exact ⟨k + 1, _, by omega, by go_num, hfin, by have := HLK.out; simp; omega, hidep (by rw [List.map_append, HL.out, HST'.out, ← HOQ.out]; rfl), hbf⟩
              case measure => simp [intOf]; omega
        · rw [hm] at HHX
          have HST' : Hid (((a.take (k + 1)).filter fun y => !memB b y).map (shiftE b) = ((a.take k).filter fun y => !memB b y).map (shiftE b)) := hidep (by rw [HST.out, hm]; simp)
          clear hm HST
          have HS := hidep hs
          have HOW := hidep hown
          clear hs hown
          go_wp2_with (first
            | (go_at_call 18; (with_reducible refine HHX.out.mono ?_); rintro e w1 ⟨rfl, hb1⟩)
            | fail)
          go_roundw
          case rel => exact ⟨k + 1, lst, by omega, by go_num, HOW.out.below hb1, by have := HLK.out; omega, hidep (HL.out.trans HST'.out.symm), hbw.trans (hb1.mono hbw.size)⟩
          case measure => simp [intOf]; omega
      · have hkl : k = a.length := by omega
        subst hkl
        have HL2 : Hid (lst.map (·.1) = (a.filter fun y => !memB b y).map (shiftE b)) := hidep (by have := HL.out; rwa [List.take_length] at this)
        go_wp2
        go_ret2
        exact ⟨_, by rw [HZ.out] <;> rfl, by rw [HZ.out, ← HL2.out]; exact hown.at.edits, HW0.out⟩
  · rw [if_pos hcl] at HZ
    have hpos : 0 < (clashP a b).length := List.length_pos_iff.2 hcl
    generalize clashP a b = L at *
    have hpos' : (0 : Int) < (L.length : Int) := by omega
    go_wp2_with (first
      | (go_at_call 50; (with_reducible refine (HC.out _ hb13).mono ?_); rintro e w4 ⟨vo, rfl, ho4, hb4⟩; obtain ⟨a4, c4, rfl, _, _⟩ := (Rd.of_own ho4).form)
      | fail)
    go_ret2
    exact ⟨_, by rw [HZ.out] <;> rfl, by rw [HZ.out]; exact EditsAt.nil _, hb13.trans (hb4.mono hb13.size)⟩
end Go.Proofs.Ythdafajhohdkoaa
