/- Contract: the reference's Apply: a text with edits. -/
import Derived.Test.YthhjnafhpmgceaaRefD
import Derived.Test.YthhjnafhpmgceaaLiftD
namespace Go.Proofs.Ythhjnafhpmgceaa
open Go.RowKit Go.Lab
set_option maxHeartbeats 2000000 in
theorem apply33_any (v u : Value) (l : List Sym) (es : List Edit) (w : World) (h : SymsAt w v l) (hE : EditsAt w u es) :
    Calls Try.prog 14 #[v, u] w fun e w' => ∃ x, e = .returned (.tuple #[x, .int .i64 (applyZ l es).2]) ∧ w'.ownsRow w.heap.size 30 2 x (applyZ l es).1.length (symsC (applyZ l es).1) ∧ Below w.heap.size w w' := by
  obtain ⟨a, cap, rfl, h2, h3⟩ := h.form
  obtain ⟨ae, cape, rfl, h2e, h3e⟩ := hE.form
  unfold maxLen at h3 h3e
  have HT := hidep (text33_any _ l w h)
  cases ht : isTextB l with
  | false =>
    have HZ : Hid (applyZ l es = ([], 1)) := hidep (by unfold applyZ; rw [ht]; rfl)
    rw [ht] at HT
    clear ht
    go_enter Try.func14, Try.ntmps14
    go_wp2_with fail
    refine HT.out.mono ?_
    rintro e w1 ⟨rfl, rfl⟩
    go_wp2
    go_ret2
    rw [HZ.out]
    exact ⟨_, rfl, World.ownsRow_nil _ _ _ _, Below.refl _ _⟩
  | true =>
    have hl : l.length ≤ 2048 := by
      unfold isTextB at ht
      simp at ht
      exact ht.1
    have HV := hidep (valid33_any _ (l.length : Int) es w hE (by omega) (by omega))
    rw [ht] at HT
    cases hv : validZ l.length es with
    | false =>
      have HZ : Hid (applyZ l es = ([], 1)) := hidep (by unfold applyZ; rw [ht, hv]; rfl)
      rw [hv] at HV
      clear ht hv
      go_enter Try.func14, Try.ntmps14
      go_wp2_with fail
      refine HT.out.mono ?_
      rintro e w1 ⟨rfl, rfl⟩
      go_wp2_with (go_at_call 28; refine HV.out.mono ?_; rintro e w2 ⟨rfl, hb2⟩)
      go_ret2
      rw [HZ.out]
      exact ⟨_, rfl, World.ownsRow_nil _ _ _ _, hb2⟩
    | true =>
      have HZ : Hid (applyZ l es = if 2048 < (applyGo l 0 [] es).length then ([], 4) else (applyGo l 0 [] es, 0)) := hidep (by unfold applyZ; rw [ht, hv]; rfl)
      rw [hv] at HV
      have HG : Hid (validGo l.length (-1) es = true) := hidep (by unfold validZ at hv; simp at hv; exact hv.2)
      have hle : es.length ≤ 32 := by unfold validZ at hv; simp at hv; exact hv.1
      clear ht hv
      go_enter Try.func14, Try.ntmps14
      go_wp2_with fail
      refine HT.out.mono ?_
      rintro e w1 ⟨rfl, rfl⟩
      go_wp2_with (go_at_call 28; refine HV.out.mono ?_; rintro e w2 ⟨rfl, hbw2⟩)
      clear HT HV
      go_loopg [6, 7, 8] es.length (fun g o p i wr => ∃ (k q : Nat) (last : Int) (out : List Sym), k ≤ es.length ∧ es.length - k = g ∧ i = .int .i64 k ∧ p = .int .i64 q ∧ q ≤ l.length ∧ ((last = -1 ∧ q = 0) ∨ last = (q : Int)) ∧ out.length ≤ q + 64 * k ∧
        Hid (validGo l.length last (es.drop k) = true) ∧ Hid (applyGo l 0 [] es = applyGo l q out (es.drop k)) ∧ wr.ownsRow w.heap.size 30 2 o out.length (symsC out) ∧ Below w.heap.size w wr)
      case atStart => exact ⟨0, 0, -1, [], Nat.zero_le _, rfl, rfl, rfl, Nat.zero_le _, .inl ⟨rfl, rfl⟩, by simp, HG, hidep rfl, World.ownsRow_nil _ _ _ _, hbw2⟩
      case round =>
        obtain ⟨k, q, last, out, hk, hg, rfl, rfl, hq, hlast, ho, HVG, HAG, hown, hbw⟩ := hrel
        have HK := hidep hg
        clear hg hbw2
        by_cases hlt : k < es.length
        · obtain ⟨b, off, u, rfl, hb, hc0, hc1, hc2, hu⟩ := hE.at hlt
          have HW0 : Hid (∀ x, x = es[k] → w.cell? ⟨b, off + k * 3, none⟩ = some (.int .i64 x.pos) ∧ w.cell? ⟨b, off + k * 3 + 1, none⟩ = some (.int .i64 x.del)) := hidep (by rintro x rfl; exact ⟨hc0, hc1⟩)
          have HW0 := hidep (HW0.out _ rfl)
          have hc0 := (hbw.cell (p := ⟨b, off + k * 3, none⟩) hb).trans hc0
          have hc1 := (hbw.cell (p := ⟨b, off + k * 3 + 1, none⟩) hb).trans hc1
          have hc2 := (hbw.cell (p := ⟨b, off + k * 3 + 2, none⟩) hb).trans hc2
          have HA := hidep (HAG.out.trans (applyGo_step hlt))
          have hst := @validGo_step l.length last es k hlt
          have hbad : badE l.length last es[k] = false := by
            cases hbb : badE l.length last es[k] with
            | false => rfl
            | true => have := hst.1 hbb; rw [HVG.out] at this; cases this
          have HV := hidep ((hst.2 hbad).symm.trans HVG.out)
          clear hst
          generalize es[k] = x at *
          obtain ⟨pos, del, ins⟩ := x
          simp only at hc0 hc1 hu HA HV
          have hb1 : last < pos ∧ pos ≤ l.length ∧ 0 ≤ del ∧ del ≤ l.length - pos ∧ ins.length ≤ 64 := by
            unfold badE at hbad
            simp only [Bool.or_eq_false_iff, decide_eq_false_iff_not] at hbad
            omega
          clear hbad
          obtain ⟨hp1, hp2, hp3, hp4, hp5⟩ := hb1
          obtain ⟨p, rfl⟩ : ∃ p : Nat, pos = (p : Int) := ⟨pos.toNat, by omega⟩
          have hqp : q ≤ p := by omega
          obtain ⟨ai, capi, rfl, hu2, hu3⟩ := hu.form
          unfold maxLen at hu3
          obtain ⟨ao, capo, rfl, ho2, ho3⟩ := (Rd.of_own hown).form
          unfold maxLen at ho3
          have hI0 : (0 : Int) ≤ (k : Int) := by omega
          have hI00 : (k : Int) < (es.length : Int) := by omega
          have hI1 : (0 : Int) ≤ (q : Int) := by omega
          have hI2 : (q : Int) ≤ (p : Int) := by omega
          have hI3 : (p : Int) ≤ (cap : Int) := by omega
          have hI4 : (0 : Int) ≤ (p : Int) := by omega
          have hne : ∀ g, (Value.slice ao out.length capo).ownBlock = some g → b ≠ g := fun g hg e => by have := (hown.lt g hg).1; omega
          go_upto_region 8 with (fail)
          go_cut [6] (fun s6 wc => wc.ownsRow w.heap.size 30 2 s6 (out ++ (l.drop q).take (p - q) ++ ins).length (symsC (out ++ (l.drop q).take (p - q) ++ ins)) ∧ Below w.heap.size w wc)
          case first =>
            have hs2 := (h.below hbw).part (x := q) (y := p) (m := cap) hqp (by omega) (by omega) (Nat.le_refl _)
            have ho1 := symsC_one ((l.drop q).take (p - q))
            have ho4 := symsC_one ins
            have hlen : ((l.drop q).take (p - q)).length = p - q := by simp; omega
            have HL := hidep hlen
            have HU := hidep (fun W (hb : Below w.heap.size w W) => hu.below hb)
            clear h hE hu hlen
            by_cases hcq : cap = q
            · obtain rfl : p = q := by omega
              subst hcq
              simp only [if_true, Nat.sub_self] at hs2 ho1 HL
              go_region_held3 (fun w' => w'.cell? ⟨b, off + k * 3, none⟩ = some (.int .i64 cap) ∧ w'.cell? ⟨b, off + k * 3 + 2, none⟩ = some (.slice ai ins.length capi))
                (first | go_keep | exact ⟨hk0, hk2⟩ | exact ⟨hj0, hj2⟩)
                (first
                  | (refine step_append_rd _ (by rfl) (.tmp 25) (.tmp 33) (by rfl) slSyms w.heap.size (.slice ao out.length capo) _ _ (by rfl) (by exact hown) _ _ _ _ (by rfl) (by exact hs2) ho1 (by unfold maxLen; rw [HL.out]; omega) (by rw [HL.out]; omega) (by exact hbw.size) ?_; intro v1 w1 hown1 hgr1 hat hnl; clear hat hnl; have hk0 : w1.cell? ⟨b, off + k * 3, none⟩ = some (.int .i64 cap) := hgr1.cell (by exact hc0) (fun e => hne _ e.symm rfl); have hk2 : w1.cell? ⟨b, off + k * 3 + 2, none⟩ = some (.slice ai ins.length capi) := hgr1.cell (by exact hc2) (fun e => hne _ e.symm rfl); have hbw1 : Below w.heap.size w w1 := hbw.drew.grown hgr1 hbw.size (fun g hg => (hown.lt g hg).1))
                  | (refine step_append_rd _ (by rfl) (.tmp 34) (.tmp 39) (by rfl) slSyms w.heap.size v1 _ _ (by rfl) (by exact hown1) _ _ _ _ (by rfl) (by exact HU.out _ hbw1) ho4 (by unfold maxLen; rw [HL.out]; omega) (by rw [HL.out]; omega) (by exact hbw1.size) ?_; intro v2 w2 hown2 hgr2 hat hnl; clear hat hnl; have hj0 : w2.cell? ⟨b, off + k * 3, none⟩ = some (.int .i64 cap) := hgr2.cell (by exact hk0) (fun e => absurd hb (Nat.not_lt.2 (hown1.lt _ e.symm).1)); have hj2 : w2.cell? ⟨b, off + k * 3 + 2, none⟩ = some (.slice ai ins.length capi) := hgr2.cell (by exact hk2) (fun e => absurd hb (Nat.not_lt.2 (hown1.lt _ e.symm).1)); have hbw2 : Below w.heap.size w w2 := hbw1.grown hgr2 hbw1.size (fun g hg => (hown1.lt g hg).1)))
              all_goals
                go_wp2
                go_meet
                simp only [Nat.sub_self]
                exact ⟨by rw [symsC_append, symsC_append, List.length_append, List.length_append]; exact hown2, hbw2⟩
            · simp only [if_neg hcq] at hs2
              go_region_held3 (fun w' => w'.cell? ⟨b, off + k * 3, none⟩ = some (.int .i64 p) ∧ w'.cell? ⟨b, off + k * 3 + 2, none⟩ = some (.slice ai ins.length capi))
                (first | go_keep | exact ⟨hk0, hk2⟩ | exact ⟨hj0, hj2⟩)
                (first
                  | (refine step_append_rd _ (by rfl) (.tmp 25) (.tmp 33) (by rfl) slSyms w.heap.size (.slice ao out.length capo) _ _ (by rfl) (by exact hown) _ _ _ _ (by rfl) (by exact hs2) ho1 (by unfold maxLen; rw [HL.out]; omega) (by rw [HL.out]; omega) (by exact hbw.size) ?_; intro v1 w1 hown1 hgr1 hat hnl; clear hat hnl; have hk0 : w1.cell? ⟨b, off + k * 3, none⟩ = some (.int .i64 p) := hgr1.cell (by exact hc0) (fun e => hne _ e.symm rfl); have hk2 : w1.cell? ⟨b, off + k * 3 + 2, none⟩ = some (.slice ai ins.length capi) := hgr1.cell (by exact hc2) (fun e => hne _ e.symm rfl); have hbw1 : Below w.heap.size w w1 := hbw.drew.grown hgr1 hbw.size (fun g hg => (hown.lt g hg).1))
                  | (refine step_append_rd _ (by rfl) (.tmp 34) (.tmp 39) (by rfl) slSyms w.heap.size v1 _ _ (by rfl) (by exact hown1) _ _ _ _ (by rfl) (by exact HU.out _ hbw1) ho4 (by unfold maxLen; rw [HL.out]; omega) (by rw [HL.out]; omega) (by exact hbw1.size) ?_; intro v2 w2 hown2 hgr2 hat hnl; clear hat hnl; have hj0 : w2.cell? ⟨b, off + k * 3, none⟩ = some (.int .i64 p) := hgr2.cell (by exact hk0) (fun e => absurd hb (Nat.not_lt.2 (hown1.lt _ e.symm).1)); have hj2 : w2.cell? ⟨b, off + k * 3 + 2, none⟩ = some (.slice ai ins.length capi) := hgr2.cell (by exact hk2) (fun e => absurd hb (Nat.not_lt.2 (hown1.lt _ e.symm).1)); have hbw2 : Below w.heap.size w w2 := hbw1.grown hgr2 hbw1.size (fun g hg => (hown1.lt g hg).1)))
              all_goals
                go_wp2
                go_meet
                exact ⟨by rw [symsC_append, symsC_append, List.length_append, List.length_append]; exact hown2, hbw2⟩
          case rest =>
            obtain ⟨hown3, hbwc⟩ := hcut
            have hd0 := (hbwc.cell (p := ⟨b, off + k * 3, none⟩) hb).trans HW0.out.1
            have hd1 := (hbwc.cell (p := ⟨b, off + k * 3 + 1, none⟩) hb).trans HW0.out.2
            simp only at hd0 hd1
            clear hown hbw hu hc0 hc1 hc2
            go_wp2
            go_quiet (fail)
            go_wp2
            go_roundg (es.length - (k + 1))
            case measure => have := HK.out; omega
            case rel =>
              obtain ⟨d, hd⟩ : ∃ d : Nat, del = (d : Int) := ⟨del.toNat, by omega⟩
              refine ⟨k + 1, p + d, (p : Int) + del, out ++ (l.drop q).take (p - q) ++ ins, by omega, rfl, by go_num, congrArg _ (by omega), by omega, .inr (by omega), by simp; omega, hidep HV.out, hidep (HA.out.trans ?_), hown3, below_drewN hbwc _⟩
              rw [hd]
              congr 1
        · have hkl : k = es.length := by omega
          subst hkl
          have HA : Hid (applyGo l 0 [] es = out ++ l.drop q) := hidep (by rw [HAG.out, List.drop_length]; rfl)
          have hs2 := (h.below hbw).part (x := q) (y := l.length) (m := cap) hq (Nat.le_refl _) (by omega) (Nat.le_refl _)
          have hone := symsC_one ((l.drop q).take (l.length - q))
          have htk : (l.drop q).take (l.length - q) = l.drop q := List.take_of_length_le (by simp)
          rw [htk] at hs2 hone
          have hlen2 : (l.drop q).length = l.length - q := by simp
          have HL := hidep hlen2
          obtain ⟨ao, capo, rfl, ho2, ho3⟩ := (Rd.of_own hown).form
          unfold maxLen at ho3
          have hI1 : (0 : Int) ≤ (q : Int) := by omega
          have hI2 : (q : Int) ≤ (l.length : Int) := by omega
          clear htk hlen2 HAG
          obtain ⟨m, hm⟩ : ∃ m : Nat, m = l.length - q := ⟨_, rfl⟩
          have HM : Hid ((l.drop q).length = m) := hidep (by rw [HL.out, hm])
          have hml : m ≤ 2048 := by omega
          have hHl : Hid ((applyGo l 0 [] es).length = out.length + m) := hidep (by rw [HA.out, List.length_append, HM.out])
          clear hm HL
          have hz : (applyZ l es = ([], 4) ∧ (2048 : Int) < (out.length : Int) + (m : Int)) ∨ (applyZ l es = (out ++ l.drop q, 0) ∧ (out.length : Int) + (m : Int) ≤ 2048) := by
            rw [HZ.out, HA.out]
            have := hHl.out
            rw [HA.out] at this
            by_cases hbig : 2048 < (out ++ l.drop q).length
            · exact .inl ⟨if_pos hbig, by omega⟩
            · exact .inr ⟨if_neg hbig, by omega⟩
          rcases hz with ⟨hz, hbig⟩ | ⟨hz, hbig⟩
          · have HZ := hidep hz
            clear hz
            go_wp2_with (at_builtin; refine wpList_append_rd _ rfl (.tmp 52) (.tmp 55) rfl slSyms w.heap.size (.slice ao out.length capo) _ _ rfl hown _ _ _ _ rfl hs2 hone (by unfold maxLen; rw [HM.out]; omega) (by rw [HM.out]; omega) hbw.size ?_; intro v4 w4 hown4 hgr4 hat hnl; clear hat hnl; rw [HM.out] at hown4; obtain ⟨a4, c4, rfl, _, _⟩ := (Rd.of_own hown4).form)
            all_goals
              go_ret2
              rw [HZ.out]
              exact ⟨_, rfl, World.ownsRow_nil _ _ _ _, hbw.grown hgr4 hbw.size (fun g hg => (hown.lt g hg).1)⟩
          · have HZ := hidep hz
            clear hz
            go_wp2_with (at_builtin; refine wpList_append_rd _ rfl (.tmp 52) (.tmp 55) rfl slSyms w.heap.size (.slice ao out.length capo) _ _ rfl hown _ _ _ _ rfl hs2 hone (by unfold maxLen; rw [HM.out]; omega) (by rw [HM.out]; omega) hbw.size ?_; intro v4 w4 hown4 hgr4 hat hnl; clear hat hnl; rw [HM.out] at hown4; obtain ⟨a4, c4, rfl, _, _⟩ := (Rd.of_own hown4).form)
            all_goals
              go_ret2
              rw [HZ.out]
              refine ⟨_, rfl, ?_, hbw.grown hgr4 hbw.size (fun g hg => (hown.lt g hg).1)⟩
              rw [List.length_append, HM.out, symsC_append]
              exact hown4
end Go.Proofs.Ythhjnafhpmgceaa
