/- Contract: the plan's edits: the edits of an alignment. -/
import Derived.Test.YthdafajhohdkoaaLiftE
import Derived.Test.YthdafajhohdkoaaPlan
namespace Go.Proofs.Ythdafajhohdkoaa
open Go.RowKit Go.Lab
theorem PlanAt.cells {w : World} {v va vb : Value} {a b : List Sym} (h : PlanAt w v va vb a b) : ∃ pb, v = .pointer (some ⟨pb, 0, none⟩) ∧ pb < w.heap.size ∧ w.cell? ⟨pb, 0, none⟩ = some va ∧ w.cell? ⟨pb, 1, none⟩ = some vb := by
  obtain ⟨pb, ob, rb, rfl, h2, _⟩ := h
  exact ⟨pb, rfl, lt_of_block h2, by simp [World.cell?, h2], by simp [World.cell?, h2]⟩
theorem own_base3 {w : World} {B B' e size n : Nat} {v : Value} {xs : List Value} (h : w.ownsRow B' e size v n xs) (hB : B ≤ B') : w.ownsRow B e size v n xs :=
  ⟨h.1, h.2.imp id (fun ⟨g, cap, cur, a, b, c⟩ => ⟨g, cap, cur, a, Nat.le_trans hB b, c⟩)⟩
theorem own_below {w w' : World} {base e size n : Nat} {v : Value} {xs : List Value} (h : w.ownsRow base e size v n xs) (hb : Below w.heap.size w w') : w'.ownsRow base e size v n xs :=
  ⟨h.1, h.2.imp id (fun ⟨g, cap, cur, a, b, c, d⟩ => ⟨g, cap, cur, a, b, (hb.block g (lt_of_block c)).trans c, d⟩)⟩
set_option maxHeartbeats 4000000 in
set_option maxRecDepth 100000 in
theorem planEdits_any (a b : List Sym) (l : List (Nat × Nat)) (vp va vb vl : Value) (w : World) (hla : a.length ≤ 2048) (hlb : b.length ≤ 2048) (hll : l.length ≤ 2048) (hinc : incP a.length b.length 0 0 l)
    (hp : PlanAt w vp va vb a b) (ha : SymsAt w va a) (hb : SymsAt w vb b) (hl : PairsAt w vl l) :
    Calls Try.prog 80 #[vp, vl] w fun e w' => ∃ v, e = .returned v ∧ OwnEs w' w.heap.size v (editsZ a b l) ∧ Below w.heap.size w w' := by
  obtain ⟨aa, ca, rfl, h1, h2⟩ := ha.form
  obtain ⟨ab, cb, rfl, h3, h4⟩ := hb.form
  obtain ⟨al, cl, rfl, h5, h6⟩ := hl.form
  unfold maxLen at h2 h4 h6
  obtain ⟨pb, rfl, hpl, hp0, hp1⟩ := hp.cells
  clear hp
  have HCL : Hid (∀ W, Below w.heap.size w W → Calls Try.prog 86 #[.slice al l.length cl] W fun e w' => ∃ v', e = .returned v' ∧ w'.ownsRow w.heap.size 45 2 v' l.length (pairsC l) ∧ Below W.heap.size W w' ∧ Below w.heap.size w w' ∧ w'.cell? ⟨pb, 0, none⟩ = some (.slice aa a.length ca) ∧ w'.cell? ⟨pb, 1, none⟩ = some (.slice ab b.length cb)) := hidep (fun W hW => (cloneP_any l _ W (hl.below hW) (by omega)).mono (fun e w' ⟨v', he, ho, hb⟩ => by
      have hb2 := hW.trans (hb.mono hW.size)
      exact ⟨v', he, own_base3 ho hW.size, hb, hb2, (hb2.cell (p := ⟨pb, 0, none⟩) hpl).trans hp0, (hb2.cell (p := ⟨pb, 1, none⟩) hpl).trans hp1⟩))
  go_enter Try.func80, Try.ntmps80
  go_upto_region 3 with (fail)
  go_cut [24, 25, 26] (fun s24 s25 s26 wc => PairsAt wc s24 (l ++ [(a.length, b.length)]) ∧ s25 = .int .i64 ((l ++ [(a.length, b.length)]).length : Nat) ∧ s26 = .int .i64 0 ∧ Below w.heap.size w wc)
  case first =>
    go_region_held3 (fun w' => w'.cell? ⟨pb, 0, none⟩ = some (.slice aa a.length ca) ∧ w'.cell? ⟨pb, 1, none⟩ = some (.slice ab b.length cb)) 
      (first | go_keep | exact ⟨hk0, hk1⟩ | exact ⟨hj0, hj1⟩)
      (first
        | (go_at_call 86; refine (HCL.out _ (by first | exact (Below.refl _ _).drew | exact ((Below.refl _ _).drew.alloc (by simp) _) | exact ((Below.refl _ _).drew.alloc (by simp) _).drew)).mono ?_; rintro e w1 ⟨v1, rfl, hown1, hb1, hbw1, hk0, hk1⟩; obtain ⟨a1, c1, rfl, hc1, hc2⟩ := (Rd.of_own hown1).form; dsimp only)
        | (have hxa : Below w1.heap.size w1 (w1.alloc (.cells #[.int .i64 a.length, .int .i64 b.length] 45)) := (Below.refl _ _).alloc (Nat.le_refl _) _; have hown1' := own_below hown1 hxa; refine step_append_rd _ (by rfl) (.tmp 11) (.tmp 23) (by rfl) slPair w.heap.size (.slice a1 l.length c1) l.length (pairsC l) (by rfl) (by exact hown1') _ _ _ _ (by rfl) (by exact Rd.fresh w1 #[.int .i64 a.length, .int .i64 b.length] 45 2 1 rfl (by decide)) (by intro u hu; simp at hu; rcases hu with rfl | rfl <;> rfl) (by unfold maxLen; omega) (by omega) (by have := hbw1.size; simp at this ⊢; try omega) ?_; intro v2 w2 hown2 hgr2 hat hnl; clear hat hnl; obtain ⟨a2, c2, rfl, hc3, hc4⟩ := (Rd.of_own hown2).form; have hbf : Below w.heap.size w w2 := (hbw1.trans (hxa.mono hbw1.size)).grown hgr2 (by have := hbw1.size; simp; omega) (fun g hg => (hown1.lt g hg).1); have hj0 := (hbf.cell (p := ⟨pb, 0, none⟩) hpl).trans hp0; have hj1 := (hbf.cell (p := ⟨pb, 1, none⟩) hpl).trans hp1; dsimp only)
        | (refine step_append_rd _ (by rfl) (.tmp 11) (.tmp 23) (by rfl) slPair w.heap.size (.slice a1 l.length c1) l.length (pairsC l) (by rfl) (by exact hown1) _ _ _ _ (by rfl) (by exact ((Rd.fresh w #[.int .i64 a.length, .int .i64 b.length] 45 2 1 rfl (by decide)).below (Below.refl _ _).drew).below hb1) (by intro u hu; simp at hu; rcases hu with rfl | rfl <;> rfl) (by unfold maxLen; omega) (by omega) (by have := hbw1.size; simp at this ⊢; try omega) ?_; intro v2 w2 hown2 hgr2 hat hnl; clear hat hnl; obtain ⟨a2, c2, rfl, hc3, hc4⟩ := (Rd.of_own hown2).form; have hbf : Below w.heap.size w w2 := hbw1.grown hgr2 hbw1.size (fun g hg => (hown1.lt g hg).1); have hj0 := (hbf.cell (p := ⟨pb, 0, none⟩) hpl).trans hp0; have hj1 := (hbf.cell (p := ⟨pb, 1, none⟩) hpl).trans hp1; dsimp only)
        | fail)
    all_goals
      go_wp2
      go_meet
      refine ⟨?_, ?_, rfl, hbf⟩
      · unfold PairsAt
        rw [pairsC_append]
        rw [List.length_append]
        exact Rd.of_own hown2
      · first | rfl | simp
  case rest =>
    obtain ⟨hLP, rfl, rfl, hbw0⟩ := hcut
    clear HCL hl h5 h6
    obtain ⟨aL, cL, rfl, hL1, hL2⟩ := hLP.form
    unfold maxLen at hL2
    have hLL : (l ++ [(a.length, b.length)]).length = l.length + 1 := by simp
    have HEZ : Hid (editsZ a b l = editsGo b 0 0 (l ++ [(a.length, b.length)])) := hidep rfl
    have HIN : Hid (∀ (j i k : Nat), j < l.length + 1 → (j ≤ l.length → incP a.length b.length i k (l.drop j)) → ∀ p q, (l ++ [(a.length, b.length)])[j]? = some (p, q) → i ≤ p ∧ k ≤ q ∧ p ≤ a.length ∧ q ≤ b.length ∧ (j + 1 ≤ l.length → incP a.length b.length (p + 1) (q + 1) (l.drop (j + 1)))) := hidep (by
      intro j i k hj hinc p q hget
      have hh := hinc (by omega)
      by_cases hlt : j < l.length
      · rw [List.drop_eq_getElem_cons hlt] at hh
        rw [List.getElem?_append_left hlt, List.getElem?_eq_getElem hlt] at hget
        injection hget with hget
        rw [hget] at hh
        exact ⟨hh.1, hh.2.1, by have := hh.2.2.1; omega, by have := hh.2.2.2.1; omega, fun _ => hh.2.2.2.2⟩
      · have : j = l.length := by omega
        subst this
        rw [List.drop_length] at hh
        rw [List.getElem?_append_right (Nat.le_refl _)] at hget
        simp at hget
        obtain ⟨rfl, rfl⟩ := hget
        exact ⟨hh.1, hh.2, by omega, by omega, fun h => by omega⟩)
    have HINC := hidep hinc
    generalize l ++ [(a.length, b.length)] = L at *
    have HLP := hidep hLP
    have HLL := hidep hLL
    obtain ⟨N, hN⟩ : ∃ N, N = L.length := ⟨_, rfl⟩
    have hNa : N ≤ l.length + 1 := by omega
    have hNb : l.length + 1 ≤ N := by omega
    rw [← hN] at hL1
    rw [← hN]
    have HNL := hidep hN
    clear hLP hLL hN
    go_wp2
    go_loopg [5, 6, 7, 26] (l.length + 1) (fun g o iv kv jv wr => ∃ (i k j : Nat) (out : List Edit), j ≤ l.length + 1 ∧ l.length + 1 - j = g ∧ iv = .int .i64 i ∧ kv = .int .i64 k ∧ jv = .int .i64 j ∧ i ≤ 2049 ∧ k ≤ 2049 ∧ out.length ≤ j ∧
      Hid (j ≤ l.length → incP a.length b.length i k (l.drop j)) ∧ Hid (editsZ a b l = out ++ editsGo b i k (L.drop j)) ∧ OwnEs wr wc.heap.size o out ∧ Below wc.heap.size wc wr)
    case atStart => exact ⟨0, 0, 0, [], by omega, rfl, rfl, rfl, rfl, by omega, by omega, by simp, hidep (fun _ => by simpa using HINC.out), hidep (by rw [HEZ.out]; rfl), OwnEs.nil _ _, Below.refl _ _⟩
    case round =>
      obtain ⟨i, k, j, out, hj, hg, rfl, rfl, rfl, hi9, hk9, hol, HI, HE, hown, hbr⟩ := hrel
      have HG := hidep hg
      clear hg hinc
      have hbw : Below w.heap.size w wr := hbw0.trans (hbr.mono hbw0.size)
      obtain ⟨ao, co, rfl, hco, hco2⟩ := hown.form
      unfold maxLen at hco2
      by_cases hjl : j < l.length + 1
      · obtain ⟨bl, ol, rfl, hbl, hc1, hc2⟩ := (HLP.out.below hbr).at (k := j) (by rw [HLL.out]; exact hjl)
        obtain ⟨p, q, hget⟩ : ∃ p q, L[j]'(by rw [HLL.out]; exact hjl) = (p, q) := ⟨_, _, rfl⟩
        rw [hget] at hc1 hc2
        simp only at hc1 hc2
        obtain ⟨hip, hkq, hpa, hqb, hnx⟩ := HIN.out j i k hjl HI.out p q (by rw [List.getElem?_eq_getElem (by rw [HLL.out]; exact hjl), hget])
        have HE2 := hidep (HE.out.trans (by rw [List.drop_eq_getElem_cons (l := L) (i := j) (by rw [HLL.out]; exact hjl), hget, editsGo, ← List.append_assoc]))
        have HNX := hidep hnx
        have hbs := hbw.size
        have hlt := hown.lt
        clear hnx HE HI hget
        have hpl2 := Nat.lt_of_lt_of_le hpl hbs
        have hp1c := (hbw.cell (p := ⟨pb, 1, none⟩) hpl).trans hp1
        by_cases hyes : i < p ∨ k < q
        · have HE3 := hidep (HE2.out.trans (by rw [if_pos hyes]))
          have hs2 := (hb.below hbw).part (x := k) (y := q) (m := q) (by omega) (by omega) (Nat.le_refl _) (by omega)
          have HSL : Hid (((b.drop k).take (q - k)).length = q - k) := hidep (by simp; omega)
          have hI1 : (0 : Int) ≤ (k : Int) := by omega
          have hI2 : (k : Int) ≤ (q : Int) := by omega
          have hI3 : (q : Int) ≤ (cb : Int) := by omega
          have hI4 : (0 : Int) ≤ (q : Int) := by omega
          have hyy : (i : Int) < (p : Int) ∨ (¬ (i : Int) < (p : Int) ∧ (k : Int) < (q : Int)) := by omega
          have HYY := hidep hyy
          clear hyy hyes
          have hnew : Below wr.heap.size wr (wr.alloc (.cells #[.int .i64 p, .int .i64 q] 45)) := (Below.refl _ _).alloc (Nat.le_refl _) _
          have HN := hidep hnew
          clear hnew
          generalize hseg : (b.drop k).take (q - k) = seg at *
          have HCS : Hid (∀ W, Below wr.heap.size wr W → wr.heap.size < W.heap.size → W.cell? ⟨wr.heap.size, 0, none⟩ = some (.int .i64 p) → W.cell? ⟨wr.heap.size, 1, none⟩ = some (.int .i64 q) → Calls Try.prog 44 #[.slice (if q = k then ab else ab.map (·.add (k * 2))) (q - k) (q - k)] W fun e w' => ∃ v' c', e = .returned (.slice v' (q - k) c') ∧ SymsAt w' (.slice v' (q - k) c') seg ∧ OwnEs w' wc.heap.size (.slice ao out.length co) out ∧ Below w.heap.size w w' ∧ Below wc.heap.size wc w' ∧ wr.heap.size < w'.heap.size ∧ w'.cell? ⟨wr.heap.size, 0, none⟩ = some (.int .i64 p) ∧ w'.cell? ⟨wr.heap.size, 1, none⟩ = some (.int .i64 q) ∧ w'.cell? ⟨pb, 1, none⟩ = some (.slice ab b.length cb)) := hidep (fun W hW hsz hw0 hw1 => (cloneSL_any seg _ W (hs2.below hW) (by rw [HSL.out]; omega)).mono (fun e w' ⟨v', he, ho, hb⟩ => by
            obtain ⟨v', c', rfl, _, _⟩ := ho.form
            rw [HSL.out] at he ho
            have hb2 := hW.trans (hb.mono hW.size)
            exact ⟨v', c', he, ho, hown.below hb2, hbw.trans (hb2.mono hbs), hbr.trans (hb2.mono hbr.size), Nat.lt_of_lt_of_le hsz hb.size, (hb.cell (p := ⟨wr.heap.size, 0, none⟩) hsz).trans hw0, (hb.cell (p := ⟨wr.heap.size, 1, none⟩) hsz).trans hw1, (hb2.cell (p := ⟨pb, 1, none⟩) hpl2).trans hp1c⟩))
          have HOL := hidep hlt
          clear hs2 hown hlt
          by_cases hqk : q = k
          · subst hqk
            simp only [if_true, Nat.sub_self] at HCS HSL
            have hyy : (i : Int) < (p : Int) := by have := HYY.out; omega
            go_upto_region 7 with (fail)
            go_cut [5] (fun s5 wd => OwnEs wd wc.heap.size s5 (out ++ [⟨(i : Int), (p : Int) - i, seg⟩]) ∧ wd.cell? ⟨wr.heap.size, 0, none⟩ = some (.int .i64 p) ∧ wd.cell? ⟨wr.heap.size, 1, none⟩ = some (.int .i64 q) ∧ Below w.heap.size w wd ∧ Below wc.heap.size wc wd)
            case first =>
              have hwr1 : IntKind.i64.wrap ((p : Int) - (i : Int)) = (p : Int) - (i : Int) := IntWalk.i64_in _ (by omega)
              have hq0 : (wr.alloc (.cells #[.int .i64 p, .int .i64 q] 45)).cell? ⟨wr.heap.size, 0, none⟩ = some (.int .i64 p) := by simp [World.cell?_alloc_new]
              have hq1 : (wr.alloc (.cells #[.int .i64 p, .int .i64 q] 45)).cell? ⟨wr.heap.size, 1, none⟩ = some (.int .i64 q) := by simp [World.cell?_alloc_new]
              have hqB := (HN.out.cell (p := ⟨pb, 1, none⟩) hpl2).trans hp1c
              have hszz : wr.heap.size < (wr.alloc (.cells #[.int .i64 p, .int .i64 q] 45)).heap.size := by simp
              go_region_held3 (fun w' => w'.cell? ⟨wr.heap.size, 0, none⟩ = some (.int .i64 p) ∧ w'.cell? ⟨wr.heap.size, 1, none⟩ = some (.int .i64 q) ∧ w'.cell? ⟨pb, 1, none⟩ = some (.slice ab b.length cb))
                (first | exact ⟨hq0, hq1, hqB⟩ | exact ⟨hk0, hk1, hkB⟩ | exact ⟨hj0, hj1, hjB⟩ | go_keep)
                (first
                  | (go_at_call 44; refine (HCS.out _ (by exact HN.out.drew) (by exact hszz) (by exact hq0) (by exact hq1)).mono ?_; rintro e w1 ⟨a1, c1, rfl, hsa, hown1, hbw1, hbc1, hsz1, hk0, hk1, hkB⟩; dsimp only)
                  | (have hxa : Below w1.heap.size w1 (w1.alloc (.cells #[.int .i64 i, .int .i64 ((p : Int) - (i : Int)), .slice a1 0 c1] 36)) := (Below.refl _ _).alloc (Nat.le_refl _) _; obtain ⟨us2, hul2, huo2, hus2⟩ := hown1.below hxa; have hfr := Rd.fresh w1 #[.int .i64 i, .int .i64 ((p : Int) - (i : Int)), .slice a1 0 c1] 36 3 1 rfl (by decide); refine step_append_rd _ (by rfl) (.tmp 40) (.tmp 58) (by rfl) slEdits wc.heap.size (.slice ao out.length co) _ _ (by rfl) (by exact huo2) _ _ _ _ (by rfl) (by exact hfr) (by intro u hu; simp at hu; rcases hu with rfl | rfl | rfl <;> rfl) (by unfold maxLen; omega) (by omega) (by have := hbc1.size; simp; omega) ?_; intro v2 w2 hown3 hgr2 hat hnl; clear hat hnl hfr; have hj0 : w2.cell? ⟨wr.heap.size, 0, none⟩ = some (.int .i64 p) := hgr2.cell (by exact (hxa.cell (p := ⟨wr.heap.size, 0, none⟩) hsz1).trans hk0) (fun e => absurd (HOL.out _ e.symm).2 (Nat.lt_irrefl _)); have hj1 : w2.cell? ⟨wr.heap.size, 1, none⟩ = some (.int .i64 q) := hgr2.cell (by exact (hxa.cell (p := ⟨wr.heap.size, 1, none⟩) hsz1).trans hk1) (fun e => absurd (HOL.out _ e.symm).2 (Nat.lt_irrefl _)); have hfin := OwnEs.snoc (e := ⟨(i : Int), (p : Int) - i, seg⟩) hul2 huo2 hus2 (hsa.below hxa) hown3 hgr2; have hbg : Below wc.heap.size wc w2 := (hbc1.trans (hxa.mono hbc1.size)).grown hgr2 (by have := hbc1.size; simp; omega) (fun g hg => (huo2.lt g hg).1); have hbf : Below w.heap.size w w2 := hbw0.trans (hbg.mono hbw0.size); have hjB := (hbf.cell (p := ⟨pb, 1, none⟩) hpl).trans hp1; dsimp only)
                  | fail)
              all_goals
                clear hwr1
                go_wp2
                go_meet
                exact ⟨hfin, hj0, hj1, hbf, hbg⟩
            case rest =>
              obtain ⟨hfin, hj0, hj1, hbf, hbg⟩ := hcut
              have hwr1 : IntKind.i64.wrap ((p : Int) + 1) = (p : Int) + 1 := IntWalk.i64_in _ (by omega)
              have hwr2 : IntKind.i64.wrap ((q : Int) + 1) = (q : Int) + 1 := IntWalk.i64_in _ (by omega)
              go_upto_region 8 with (fail)
              go_quiet (fail)
              clear hwr1 hwr2
              go_wp2
              go_roundg (l.length + 1 - (j + 1))
              case measure => have := HG.out; omega
              case rel => exact ⟨p + 1, q + 1, j + 1, _, by omega, rfl, by go_num, by go_num, by go_num, by omega, by omega, by simp; omega, HNX, HE3, hfin.below (below_drewN (Below.refl _ _) _), below_drewN hbg _⟩
          · simp only [if_neg hqk] at HCS
            rcases HYY.out with hyy | ⟨hyy, hyy2⟩
            · skip
              go_upto_region 7 with (fail)
              go_cut [5] (fun s5 wd => OwnEs wd wc.heap.size s5 (out ++ [⟨(i : Int), (p : Int) - i, seg⟩]) ∧ wd.cell? ⟨wr.heap.size, 0, none⟩ = some (.int .i64 p) ∧ wd.cell? ⟨wr.heap.size, 1, none⟩ = some (.int .i64 q) ∧ Below w.heap.size w wd ∧ Below wc.heap.size wc wd)
              case first =>
                have hwr1 : IntKind.i64.wrap ((p : Int) - (i : Int)) = (p : Int) - (i : Int) := IntWalk.i64_in _ (by omega)
                have hq0 : (wr.alloc (.cells #[.int .i64 p, .int .i64 q] 45)).cell? ⟨wr.heap.size, 0, none⟩ = some (.int .i64 p) := by simp [World.cell?_alloc_new]
                have hq1 : (wr.alloc (.cells #[.int .i64 p, .int .i64 q] 45)).cell? ⟨wr.heap.size, 1, none⟩ = some (.int .i64 q) := by simp [World.cell?_alloc_new]
                have hqB := (HN.out.cell (p := ⟨pb, 1, none⟩) hpl2).trans hp1c
                have hszz : wr.heap.size < (wr.alloc (.cells #[.int .i64 p, .int .i64 q] 45)).heap.size := by simp
                go_region_held3 (fun w' => w'.cell? ⟨wr.heap.size, 0, none⟩ = some (.int .i64 p) ∧ w'.cell? ⟨wr.heap.size, 1, none⟩ = some (.int .i64 q) ∧ w'.cell? ⟨pb, 1, none⟩ = some (.slice ab b.length cb))
                  (first | exact ⟨hq0, hq1, hqB⟩ | exact ⟨hk0, hk1, hkB⟩ | exact ⟨hj0, hj1, hjB⟩ | go_keep)
                  (first
                    | (go_at_call 44; refine (HCS.out _ (by exact HN.out.drew) (by exact hszz) (by exact hq0) (by exact hq1)).mono ?_; rintro e w1 ⟨a1, c1, rfl, hsa, hown1, hbw1, hbc1, hsz1, hk0, hk1, hkB⟩; dsimp only)
                    | (have hxa : Below w1.heap.size w1 (w1.alloc (.cells #[.int .i64 i, .int .i64 ((p : Int) - (i : Int)), .slice a1 (q - k) c1] 36)) := (Below.refl _ _).alloc (Nat.le_refl _) _; obtain ⟨us2, hul2, huo2, hus2⟩ := hown1.below hxa; have hfr := Rd.fresh w1 #[.int .i64 i, .int .i64 ((p : Int) - (i : Int)), .slice a1 (q - k) c1] 36 3 1 rfl (by decide); refine step_append_rd _ (by rfl) (.tmp 40) (.tmp 58) (by rfl) slEdits wc.heap.size (.slice ao out.length co) _ _ (by rfl) (by exact huo2) _ _ _ _ (by rfl) (by exact hfr) (by intro u hu; simp at hu; rcases hu with rfl | rfl | rfl <;> rfl) (by unfold maxLen; omega) (by omega) (by have := hbc1.size; simp; omega) ?_; intro v2 w2 hown3 hgr2 hat hnl; clear hat hnl hfr; have hj0 : w2.cell? ⟨wr.heap.size, 0, none⟩ = some (.int .i64 p) := hgr2.cell (by exact (hxa.cell (p := ⟨wr.heap.size, 0, none⟩) hsz1).trans hk0) (fun e => absurd (HOL.out _ e.symm).2 (Nat.lt_irrefl _)); have hj1 : w2.cell? ⟨wr.heap.size, 1, none⟩ = some (.int .i64 q) := hgr2.cell (by exact (hxa.cell (p := ⟨wr.heap.size, 1, none⟩) hsz1).trans hk1) (fun e => absurd (HOL.out _ e.symm).2 (Nat.lt_irrefl _)); have hfin := OwnEs.snoc (e := ⟨(i : Int), (p : Int) - i, seg⟩) hul2 huo2 hus2 (hsa.below hxa) hown3 hgr2; have hbg : Below wc.heap.size wc w2 := (hbc1.trans (hxa.mono hbc1.size)).grown hgr2 (by have := hbc1.size; simp; omega) (fun g hg => (huo2.lt g hg).1); have hbf : Below w.heap.size w w2 := hbw0.trans (hbg.mono hbw0.size); have hjB := (hbf.cell (p := ⟨pb, 1, none⟩) hpl).trans hp1; dsimp only)
                    | fail)
                all_goals
                  clear hwr1
                  go_wp2
                  go_meet
                  exact ⟨hfin, hj0, hj1, hbf, hbg⟩
              case rest =>
                obtain ⟨hfin, hj0, hj1, hbf, hbg⟩ := hcut
                have hwr1 : IntKind.i64.wrap ((p : Int) + 1) = (p : Int) + 1 := IntWalk.i64_in _ (by omega)
                have hwr2 : IntKind.i64.wrap ((q : Int) + 1) = (q : Int) + 1 := IntWalk.i64_in _ (by omega)
                go_upto_region 8 with (fail)
                go_quiet (fail)
                clear hwr1 hwr2
                go_wp2
                go_roundg (l.length + 1 - (j + 1))
                case measure => have := HG.out; omega
                case rel => exact ⟨p + 1, q + 1, j + 1, _, by omega, rfl, by go_num, by go_num, by go_num, by omega, by omega, by simp; omega, HNX, HE3, hfin.below (below_drewN (Below.refl _ _) _), below_drewN hbg _⟩
            · skip
              go_upto_region 7 with (fail)
              go_cut [5] (fun s5 wd => OwnEs wd wc.heap.size s5 (out ++ [⟨(i : Int), (p : Int) - i, seg⟩]) ∧ wd.cell? ⟨wr.heap.size, 0, none⟩ = some (.int .i64 p) ∧ wd.cell? ⟨wr.heap.size, 1, none⟩ = some (.int .i64 q) ∧ Below w.heap.size w wd ∧ Below wc.heap.size wc wd)
              case first =>
                have hwr1 : IntKind.i64.wrap ((p : Int) - (i : Int)) = (p : Int) - (i : Int) := IntWalk.i64_in _ (by omega)
                have hq0 : (wr.alloc (.cells #[.int .i64 p, .int .i64 q] 45)).cell? ⟨wr.heap.size, 0, none⟩ = some (.int .i64 p) := by simp [World.cell?_alloc_new]
                have hq1 : (wr.alloc (.cells #[.int .i64 p, .int .i64 q] 45)).cell? ⟨wr.heap.size, 1, none⟩ = some (.int .i64 q) := by simp [World.cell?_alloc_new]
                have hqB := (HN.out.cell (p := ⟨pb, 1, none⟩) hpl2).trans hp1c
                have hszz : wr.heap.size < (wr.alloc (.cells #[.int .i64 p, .int .i64 q] 45)).heap.size := by simp
                go_region_held3 (fun w' => w'.cell? ⟨wr.heap.size, 0, none⟩ = some (.int .i64 p) ∧ w'.cell? ⟨wr.heap.size, 1, none⟩ = some (.int .i64 q) ∧ w'.cell? ⟨pb, 1, none⟩ = some (.slice ab b.length cb))
                  (first | exact ⟨hq0, hq1, hqB⟩ | exact ⟨hk0, hk1, hkB⟩ | exact ⟨hj0, hj1, hjB⟩ | go_keep)
                  (first
                    | (go_at_call 44; refine (HCS.out _ (by exact HN.out.drew) (by exact hszz) (by exact hq0) (by exact hq1)).mono ?_; rintro e w1 ⟨a1, c1, rfl, hsa, hown1, hbw1, hbc1, hsz1, hk0, hk1, hkB⟩; dsimp only)
                    | (have hxa : Below w1.heap.size w1 (w1.alloc (.cells #[.int .i64 i, .int .i64 ((p : Int) - (i : Int)), .slice a1 (q - k) c1] 36)) := (Below.refl _ _).alloc (Nat.le_refl _) _; obtain ⟨us2, hul2, huo2, hus2⟩ := hown1.below hxa; have hfr := Rd.fresh w1 #[.int .i64 i, .int .i64 ((p : Int) - (i : Int)), .slice a1 (q - k) c1] 36 3 1 rfl (by decide); refine step_append_rd _ (by rfl) (.tmp 40) (.tmp 58) (by rfl) slEdits wc.heap.size (.slice ao out.length co) _ _ (by rfl) (by exact huo2) _ _ _ _ (by rfl) (by exact hfr) (by intro u hu; simp at hu; rcases hu with rfl | rfl | rfl <;> rfl) (by unfold maxLen; omega) (by omega) (by have := hbc1.size; simp; omega) ?_; intro v2 w2 hown3 hgr2 hat hnl; clear hat hnl hfr; have hj0 : w2.cell? ⟨wr.heap.size, 0, none⟩ = some (.int .i64 p) := hgr2.cell (by exact (hxa.cell (p := ⟨wr.heap.size, 0, none⟩) hsz1).trans hk0) (fun e => absurd (HOL.out _ e.symm).2 (Nat.lt_irrefl _)); have hj1 : w2.cell? ⟨wr.heap.size, 1, none⟩ = some (.int .i64 q) := hgr2.cell (by exact (hxa.cell (p := ⟨wr.heap.size, 1, none⟩) hsz1).trans hk1) (fun e => absurd (HOL.out _ e.symm).2 (Nat.lt_irrefl _)); have hfin := OwnEs.snoc (e := ⟨(i : Int), (p : Int) - i, seg⟩) hul2 huo2 hus2 (hsa.below hxa) hown3 hgr2; have hbg : Below wc.heap.size wc w2 := (hbc1.trans (hxa.mono hbc1.size)).grown hgr2 (by have := hbc1.size; simp; omega) (fun g hg => (huo2.lt g hg).1); have hbf : Below w.heap.size w w2 := hbw0.trans (hbg.mono hbw0.size); have hjB := (hbf.cell (p := ⟨pb, 1, none⟩) hpl).trans hp1; dsimp only)
                    | fail)
                all_goals
                  clear hwr1
                  go_wp2
                  go_meet
                  exact ⟨hfin, hj0, hj1, hbf, hbg⟩
              case rest =>
                obtain ⟨hfin, hj0, hj1, hbf, hbg⟩ := hcut
                have hwr1 : IntKind.i64.wrap ((p : Int) + 1) = (p : Int) + 1 := IntWalk.i64_in _ (by omega)
                have hwr2 : IntKind.i64.wrap ((q : Int) + 1) = (q : Int) + 1 := IntWalk.i64_in _ (by omega)
                go_upto_region 8 with (fail)
                go_quiet (fail)
                clear hwr1 hwr2
                go_wp2
                go_roundg (l.length + 1 - (j + 1))
                case measure => have := HG.out; omega
                case rel => exact ⟨p + 1, q + 1, j + 1, _, by omega, rfl, by go_num, by go_num, by go_num, by omega, by omega, by simp; omega, HNX, HE3, hfin.below (below_drewN (Below.refl _ _) _), below_drewN hbg _⟩
        · have HE3 := hidep (HE2.out.trans (by rw [if_neg hyes, List.append_nil]))
          have hn1 : ¬ (i : Int) < (p : Int) := by omega
          have hn2 : ¬ (k : Int) < (q : Int) := by omega
          clear hyes
          have hnew : Below wr.heap.size wr (wr.alloc (.cells #[.int .i64 p, .int .i64 q] 45)) := (Below.refl _ _).alloc (Nat.le_refl _) _
          have HN := hidep hnew
          clear hnew
          go_upto_region 8 with (fail)
          have hwr1 : IntKind.i64.wrap ((p : Int) + 1) = (p : Int) + 1 := IntWalk.i64_in _ (by omega)
          have hwr2 : IntKind.i64.wrap ((q : Int) + 1) = (q : Int) + 1 := IntWalk.i64_in _ (by omega)
          go_quiet (fail)
          clear hwr1 hwr2
          go_wp2
          go_roundg (l.length + 1 - (j + 1))
          case measure => have := HG.out; omega
          case rel => exact ⟨p + 1, q + 1, j + 1, out, by omega, rfl, by go_num, by go_num, by go_num, by omega, by omega, by omega, HNX, HE3, hown.below (below_drewN HN.out _), below_drewN (hbr.trans (HN.out.mono hbr.size)) _⟩
      · have HF : Hid (editsZ a b l = out) := hidep (by
          rw [HE.out, List.drop_eq_nil_of_le (by rw [HLL.out]; omega)]
          simp [editsGo])
        go_wp2
        go_ret
        rw [HF.out]
        obtain ⟨us, hul, huo, hus⟩ := hown
        exact ⟨_, rfl, ⟨us, hul, own_base3 huo hbw0.size, hus⟩, hbw⟩
end Go.Proofs.Ythdafajhohdkoaa
