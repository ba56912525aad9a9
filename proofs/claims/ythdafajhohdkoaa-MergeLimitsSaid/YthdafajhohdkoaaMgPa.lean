/- Contract of the reference of package merge: the pairs of edits that clash. -/
import Derived.Test.YthdafajhohdkoaaMgQ
import Derived.Test.YthdafajhohdkoaaMgR
namespace Go.Proofs.Ythdafajhohdkoaa
open Go.RowKit Go.Lab
set_option maxHeartbeats 4000000 in
set_option maxRecDepth 100000 in
theorem pairs34_any (v u : Value) (a b : List Edit) (w : World) (h : EditsAt w v a) (h' : EditsAt w u b) (hoka : ∀ e ∈ a, EdOk e) (hokb : ∀ e ∈ b, EdOk e) (hN : (clashP a b).length ≤ 1048576) :
    Calls Try.prog 50 #[v, u] w fun e w' => ∃ vo, e = .returned vo ∧ w'.ownsRow w.heap.size 45 2 vo (clashP a b).length (pairsC (clashP a b)) ∧ Below w.heap.size w w' := by
  obtain ⟨aa, ca, rfl, h2, h3⟩ := h.form
  obtain ⟨ab, cb, rfl, h2', h3'⟩ := h'.form
  unfold maxLen at h3 h3'
  go_enter Try.func50, Try.ntmps50
  go_upto_region 99 with (fail)
  go_loopw [5, 6] (fun o i wr => ∃ (k : Nat) (L : List (Nat × Nat)), k ≤ a.length ∧ i = .int .i64 k ∧ Hid (L ++ clashGo b (a.drop k) k = clashP a b) ∧ wr.ownsRow w.heap.size 45 2 o L.length (pairsC L) ∧ Below w.heap.size w wr) (fun _ i _ => a.length - (intOf i).toNat)
  case atStart => exact ⟨0, [], Nat.zero_le _, rfl, hidep rfl, World.ownsRow_nil _ _ _ _, Below.refl _ _⟩
  case round =>
    obtain ⟨k, L, hk, rfl, HG, ho, hbw⟩ := hrel
    obtain ⟨wo, hwo⟩ : ∃ wo : World, wo = wr := ⟨_, rfl⟩
    subst hwo
    by_cases hlt : k < a.length
    · have HG1 := hidep (HG.out.symm.trans (congrArg (L ++ ·) (clashGo_step (b := b) hlt)))
      have hkx := hoka _ (List.getElem_mem hlt)
      have HX := hidep (fun (W : World) (hW : Below w.heap.size w W) => edits_get (h.below hW) hlt)
      clear HG
      generalize a[k] = x at *
      obtain ⟨p, d, ins⟩ := x
      obtain ⟨e1, e2, e3, e4⟩ := hkx
      simp only at HX e1 e2 e3 e4
      have hI : 0 ≤ (k : Int) := by omega
      have hI1 : (k : Int) < (a.length : Int) := by omega
      go_upto_region 99 with (fail)
      go_loopw [5, 7] (fun o i wi => ∃ (j : Nat) (M : List (Nat × Nat)), j ≤ b.length ∧ i = .int .i64 j ∧ Hid (M ++ (clashRow ⟨p, d, ins⟩ k (b.drop j) j ++ clashGo b (a.drop (k + 1)) (k + 1)) = clashP a b) ∧ wi.ownsRow w.heap.size 45 2 o M.length (pairsC M) ∧ Below w.heap.size w wi) (fun _ i _ => b.length - (intOf i).toNat)
      case atStart => exact ⟨0, L, Nat.zero_le _, rfl, hidep HG1.out.symm, ho, hbw⟩
      case round =>
        obtain ⟨j, M, hj, rfl, HM, hM, hbi⟩ := hrel
        obtain ⟨am, cm, rfl, _, _⟩ := (Rd.of_own hM).form
        by_cases hlj : j < b.length
        · obtain ⟨bx, ox, ux, nx, cx, rfl, hbx, hc0, hc1, hc2, hs⟩ := HX.out _ hbi
          obtain ⟨by_, oy, uy, ny, cy, rfl, hby, hd0, hd1, hd2, hs'⟩ := edits_get (h'.below hbi) hlj
          have hky := hokb _ (List.getElem_mem hlj)
          have HM1 := hidep (HM.out.symm.trans (congrArg (fun q => M ++ (q ++ clashGo b (a.drop (k + 1)) (k + 1))) (clashRow_step (x := ⟨p, d, ins⟩) (i := k) hlj)))
          clear HM
          generalize b[j] = y at *
          obtain ⟨p', d', ins'⟩ := y
          obtain ⟨f1, f2, f3, f4⟩ := hky
          simp only at hd0 hd1 hs' f1 f2 f3 f4
          have HS := hidep (fun X (hX : Below wr.heap.size wr X) => same34_any p d p' d' ins ins' _ _ X (hs.below hX) (hs'.below hX))
          have hJ : 0 ≤ (j : Int) := by omega
          have hJ1 : (j : Int) < (b.length : Int) := by omega
          clear hs hs' HX h h' ho
          by_cases ht : p ≤ p' + d' ∧ p' ≤ p + d
          · obtain ⟨t1, t2⟩ := ht
            have HD := hidep (Below.refl wr.heap.size wr).drew
            by_cases hxy : (⟨p, d, ins⟩ : Edit) = ⟨p', d', ins'⟩
            · have hcl : clashB ⟨p, d, ins⟩ ⟨p', d', ins'⟩ = false := by rw [← hxy]; simp [clashB]
              rw [hcl] at HM1
              have hdt : decide ((⟨p, d, ins⟩ : Edit) = ⟨p', d', ins'⟩) = true := decide_eq_true hxy
              rw [hdt] at HS
              clear hxy hdt hcl
              go_upto_region 8 with (fail)
              go_quiet (fail)
              go_upto_region 9 with (fail)
              go_region_held3? (fun w' => w'.cell? ⟨bx, ox + k * 3, none⟩ = some (.int .i64 p) ∧ w'.cell? ⟨bx, ox + k * 3 + 1, none⟩ = some (.int .i64 d) ∧ w'.cell? ⟨bx, ox + k * 3 + 2, none⟩ = some (.slice ux nx cx) ∧ w'.cell? ⟨by_, oy + j * 3, none⟩ = some (.int .i64 p') ∧ w'.cell? ⟨by_, oy + j * 3 + 1, none⟩ = some (.int .i64 d') ∧ w'.cell? ⟨by_, oy + j * 3 + 2, none⟩ = some (.slice uy ny cy))
                (first | exact ⟨hc0, hc1, hc2, hd0, hd1, hd2⟩ | exact hall | go_keep)
                (first
                | (go_at_call 36; refine (HS.out _ (by first | exact HD.out | exact below_drewN (Below.refl _ _) _)).mono ?_; rintro e w1 ⟨rfl, hb1⟩; have hall := (show w1.cell? ⟨bx, ox + k * 3, none⟩ = some (.int .i64 p) ∧ w1.cell? ⟨bx, ox + k * 3 + 1, none⟩ = some (.int .i64 d) ∧ w1.cell? ⟨bx, ox + k * 3 + 2, none⟩ = some (.slice ux nx cx) ∧ w1.cell? ⟨by_, oy + j * 3, none⟩ = some (.int .i64 p') ∧ w1.cell? ⟨by_, oy + j * 3 + 1, none⟩ = some (.int .i64 d') ∧ w1.cell? ⟨by_, oy + j * 3 + 2, none⟩ = some (.slice uy ny cy) from ⟨(hb1.cell (p := ⟨bx, ox + k * 3, none⟩) hbx).trans hc0, (hb1.cell (p := ⟨bx, ox + k * 3 + 1, none⟩) hbx).trans hc1, (hb1.cell (p := ⟨bx, ox + k * 3 + 2, none⟩) hbx).trans hc2, (hb1.cell (p := ⟨by_, oy + j * 3, none⟩) hby).trans hd0, (hb1.cell (p := ⟨by_, oy + j * 3 + 1, none⟩) hby).trans hd1, (hb1.cell (p := ⟨by_, oy + j * 3 + 2, none⟩) hby).trans hd2⟩); dsimp only)
                | fail)
              all_goals
                go_wp2
                go_roundw
                case rel => exact ⟨j + 1, M, by omega, by go_num, hidep (by have := HM1.out; simpa using this.symm), ownR_below0 hM (by first | exact HD.out.trans hb1 | exact (below_drewN (Below.refl _ _) _).trans hb1), hbi.trans (Below.mono (by first | exact HD.out.trans hb1 | exact (below_drewN (Below.refl _ _) _).trans hb1) hbi.size)⟩
                case measure => simp [intOf]; omega
            · have hcl : clashB ⟨p, d, ins⟩ ⟨p', d', ins'⟩ = true := by simp [clashB, hxy, t1, t2]
              rw [hcl] at HM1
              have hdt : decide ((⟨p, d, ins⟩ : Edit) = ⟨p', d', ins'⟩) = false := decide_eq_false hxy
              rw [hdt] at HS
              clear hxy hdt hcl
              go_upto_region 8 with (fail)
              go_quiet (fail)
              go_upto_region 9 with (fail)
              go_region_held3? (fun w' => w'.cell? ⟨bx, ox + k * 3, none⟩ = some (.int .i64 p) ∧ w'.cell? ⟨bx, ox + k * 3 + 1, none⟩ = some (.int .i64 d) ∧ w'.cell? ⟨bx, ox + k * 3 + 2, none⟩ = some (.slice ux nx cx) ∧ w'.cell? ⟨by_, oy + j * 3, none⟩ = some (.int .i64 p') ∧ w'.cell? ⟨by_, oy + j * 3 + 1, none⟩ = some (.int .i64 d') ∧ w'.cell? ⟨by_, oy + j * 3 + 2, none⟩ = some (.slice uy ny cy))
                (first | exact ⟨hc0, hc1, hc2, hd0, hd1, hd2⟩ | exact hall | go_keep)
                (first
                | (go_at_call 36; refine (HS.out _ (by first | exact HD.out | exact below_drewN (Below.refl _ _) _)).mono ?_; rintro e w1 ⟨rfl, hb1⟩; have hall := (show w1.cell? ⟨bx, ox + k * 3, none⟩ = some (.int .i64 p) ∧ w1.cell? ⟨bx, ox + k * 3 + 1, none⟩ = some (.int .i64 d) ∧ w1.cell? ⟨bx, ox + k * 3 + 2, none⟩ = some (.slice ux nx cx) ∧ w1.cell? ⟨by_, oy + j * 3, none⟩ = some (.int .i64 p') ∧ w1.cell? ⟨by_, oy + j * 3 + 1, none⟩ = some (.int .i64 d') ∧ w1.cell? ⟨by_, oy + j * 3 + 2, none⟩ = some (.slice uy ny cy) from ⟨(hb1.cell (p := ⟨bx, ox + k * 3, none⟩) hbx).trans hc0, (hb1.cell (p := ⟨bx, ox + k * 3 + 1, none⟩) hbx).trans hc1, (hb1.cell (p := ⟨bx, ox + k * 3 + 2, none⟩) hbx).trans hc2, (hb1.cell (p := ⟨by_, oy + j * 3, none⟩) hby).trans hd0, (hb1.cell (p := ⟨by_, oy + j * 3 + 1, none⟩) hby).trans hd1, (hb1.cell (p := ⟨by_, oy + j * 3 + 2, none⟩) hby).trans hd2⟩); dsimp only)
                | fail)
              all_goals
                have hbz : Below wr.heap.size wr w1 := (by first | exact HD.out.trans hb1 | exact (below_drewN (Below.refl _ _) _).trans hb1)
                have hM2 := ownR_below0 hM hbz
                have HMB := hidep (hbi.trans (hbz.mono hbi.size))
                have HML := hidep (show M.length + 1 ≤ 1048576 by have := congrArg List.length HM1.out; simp at this; omega)
                have hml := HML.out
                go_wp2_with (first
                  | (have hfr := Rd.fresh w1 #[.int .i64 (k : Nat), .int .i64 (j : Nat)] 45 2 1 rfl (by decide); at_builtin; refine wpList_append_rd _ (by rfl) (.tmp 70) (.tmp 74) (by rfl) slPair w.heap.size (.slice am M.length cm) M.length (pairsC M) (by rfl) (by exact hM2.alloc _) _ _ _ _ (by rfl) (by exact hfr) (by intro u hu; simp at hu; rcases hu with rfl | rfl <;> rfl) (by unfold maxLen; omega) (by omega) (by have := HMB.out.size; simp; omega) ?_; intro v2 w2 hown2 hgr2 hat hnl; clear hat hnl hfr; dsimp only)
                  | fail)
                have hb2 := (HMB.out.alloc HMB.out.size (.cells #[.int .i64 (k : Nat), .int .i64 (j : Nat)] 45)).grown hgr2 (by have := HMB.out.size; simp; omega) (fun g hg => (hM2.lt g hg).1)
                go_roundw
                case rel => exact ⟨j + 1, M ++ [(k, j)], by omega, by go_num, hidep (by rw [HM1.out]; simp), (by rw [pairsC_append, List.length_append]; exact hown2), hb2⟩
                case measure => simp [intOf]; omega
          · have hcl : clashB ⟨p, d, ins⟩ ⟨p', d', ins'⟩ = false := by
              cases hb : clashB ⟨p, d, ins⟩ ⟨p', d', ins'⟩
              · rfl
              · exfalso
                simp [clashB] at hb
                exact ht ⟨hb.1.2, hb.2⟩
            rw [hcl] at HM1
            clear hcl HS
            by_cases t1 : p ≤ p' + d'
            · have t2 : ¬ p' ≤ p + d := fun h => ht ⟨t1, h⟩
              clear ht
              go_upto_region 8 with (fail)
              go_quiet (fail)
              go_upto_region 9 with (fail)
              go_region
              go_wp2
              go_roundw
              case rel => exact ⟨j + 1, M, by omega, by go_num, hidep (by have := HM1.out; simpa using this.symm), ownR_below0 hM (by first | exact below_drewN (Below.refl _ _) _ | exact Below.refl _ _), hbi.trans (by first | exact below_drewN (Below.refl _ _) _ | exact Below.refl _ _)⟩
              case measure => simp [intOf]; omega
            · clear ht
              go_upto_region 8 with (fail)
              go_quiet (fail)
              go_upto_region 9 with (fail)
              go_region
              go_wp2
              go_roundw
              case rel => exact ⟨j + 1, M, by omega, by go_num, hidep (by have := HM1.out; simpa using this.symm), ownR_below0 hM (by first | exact below_drewN (Below.refl _ _) _ | exact Below.refl _ _), hbi.trans (by first | exact below_drewN (Below.refl _ _) _ | exact Below.refl _ _)⟩
              case measure => simp [intOf]; omega
        · have hjb : j = b.length := by omega
          subst hjb
          go_wp2
          go_roundw
          case rel => exact ⟨k + 1, M, by omega, by go_num, hidep (by have := HM.out; simpa [clashRow] using this), hM, hbi⟩
          case measure => simp [intOf]; omega
    · have hka : k = a.length := by omega
      subst hka
      go_wp2
      go_ret
      have hL : L = clashP a b := by have := HG.out; simpa [clashGo] using this
      subst hL
      exact ⟨_, rfl, ho, hbw⟩
end Go.Proofs.Ythdafajhohdkoaa
