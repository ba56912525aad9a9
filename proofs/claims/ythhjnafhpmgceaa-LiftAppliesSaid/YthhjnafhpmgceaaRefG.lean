/- Contract: the reference's Edits: the edits of an alignment. -/
import Derived.Test.YthhjnafhpmgceaaOwnE
namespace Go.Proofs.Ythhjnafhpmgceaa
open Go.RowKit Go.Lab
set_option maxHeartbeats 4000000 in
set_option maxRecDepth 100000 in
theorem edits33_any (a b : List Sym) (l : List (Nat × Nat)) (va vb vl : Value) (w : World) (hla : a.length ≤ 2048) (hlb : b.length ≤ 2048) (hll : l.length ≤ 2048) (hinc : incP a.length b.length 0 0 l)
    (ha : SymsAt w va a) (hb : SymsAt w vb b) (hl : PairsAt w vl l) :
    Calls Try.prog 35 #[va, vb, vl] w fun e w' => ∃ v, e = .returned v ∧ OwnEs w' w.heap.size v (editsZ a b l) ∧ Below w.heap.size w w' := by
  obtain ⟨aa, ca, rfl, h1, h2⟩ := ha.form
  obtain ⟨ab, cb, rfl, h3, h4⟩ := hb.form
  obtain ⟨al, cl, rfl, h5, h6⟩ := hl.form
  unfold maxLen at h2 h4 h6
  go_enter Try.func35, Try.ntmps35
  go_wp2
  go_loopg [7, 8, 9, 10] (l.length + 1) (fun g o iv kv jv wr => ∃ (i k j : Nat) (out : List Edit), j ≤ l.length + 1 ∧ l.length + 1 - j = g ∧ iv = .int .i64 i ∧ kv = .int .i64 k ∧ jv = .int .i64 j ∧ i ≤ 2049 ∧ k ≤ 2049 ∧ out.length ≤ j ∧
    Hid (j ≤ l.length → incP a.length b.length i k (l.drop j)) ∧ Hid (editsZ a b l = out ++ editsGo b i k ((l ++ [(a.length, b.length)]).drop j)) ∧ OwnEs wr w.heap.size o out ∧ Below w.heap.size w wr)
  case atStart => exact ⟨0, 0, 0, [], by omega, rfl, rfl, rfl, rfl, by omega, by omega, by simp, hidep (fun _ => by simpa using hinc), hidep rfl, OwnEs.nil _ _, Below.refl _ _⟩
  case round =>
    obtain ⟨i, k, j, out, hj, hg, rfl, rfl, rfl, hi9, hk9, hol, HI, HE, hown, hbw⟩ := hrel
    have HG := hidep hg
    clear hg
    obtain ⟨ao, co, rfl, hco, hco2⟩ := hown.form
    unfold maxLen at hco2
    by_cases hjl : j ≤ l.length
    · obtain ⟨p, q, hget⟩ : ∃ p q, (l ++ [(a.length, b.length)])[j]'(by simp; omega) = (p, q) := ⟨_, _, rfl⟩
      have hpq : i ≤ p ∧ k ≤ q ∧ p ≤ a.length ∧ q ≤ b.length ∧ (j + 1 ≤ l.length → incP a.length b.length (p + 1) (q + 1) (l.drop (j + 1))) := by
        have hh := HI.out hjl
        by_cases hlt : j < l.length
        · rw [List.drop_eq_getElem_cons hlt] at hh
          rw [List.getElem_append_left hlt] at hget
          rw [hget] at hh
          exact ⟨hh.1, hh.2.1, by have := hh.2.2.1; omega, by have := hh.2.2.2.1; omega, fun _ => hh.2.2.2.2⟩
        · have : j = l.length := by omega
          subst this
          rw [List.drop_length] at hh
          rw [List.getElem_append_right (Nat.le_refl _)] at hget
          simp at hget
          obtain ⟨rfl, rfl⟩ := hget
          exact ⟨hh.1, hh.2, by omega, by omega, fun h => by omega⟩
      have HE2 := hidep (HE.out.trans (by rw [List.drop_eq_getElem_cons (l := l ++ [(a.length, b.length)]) (i := j) (by simp; omega), hget, editsGo, ← List.append_assoc]))
      obtain ⟨hp1, hq1, hp2, hq2, hnx⟩ := hpq
      have HNX := hidep hnx
      have hbs := hbw.size
      clear hnx HE HI
      have hget2 : (∃ hlt : j < l.length, l[j] = (p, q)) ∨ (j = l.length ∧ p = a.length ∧ q = b.length) := by
        by_cases hlt : j < l.length
        · left
          rw [List.getElem_append_left hlt] at hget
          exact ⟨hlt, hget⟩
        · right
          have : j = l.length := by omega
          subst this
          rw [List.getElem_append_right (Nat.le_refl _)] at hget
          simp at hget
          exact ⟨rfl, hget.1.symm, hget.2.symm⟩
      have HG2 := hidep hget2
      clear hget hget2
      go_upto_if 27 with (fail)
      go_cut [11] (fun s11 wc => s11 = .pointer (some ⟨wr.heap.size, 0, none⟩) ∧ wc.cell? ⟨wr.heap.size, 0, none⟩ = some (.int .i64 p) ∧ wc.cell? ⟨wr.heap.size, 1, none⟩ = some (.int .i64 q) ∧ Below wr.heap.size wr wc ∧ wr.heap.size < wc.heap.size)
      case first =>
        have hnew : Below wr.heap.size wr (wr.alloc (.cells #[.int .i64 a.length, .int .i64 b.length] 76)) := (Below.refl _ _).alloc (Nat.le_refl _) _
        rcases HG2.out with ⟨hlt, he⟩ | ⟨rfl, rfl, rfl⟩
        · obtain ⟨bl, ol, rfl, hbl, hc1, hc2⟩ := (hl.below hbw).at hlt
          rw [he] at hc1 hc2
          simp only at hc1 hc2
          have hN := hidep hnew
          clear hnew he HG2
          go_wp2
          go_meet
          exact ⟨rfl, by simp [World.cell?_alloc_new], by simp [World.cell?_alloc_new], (Below.refl _ _).alloc (Nat.le_refl _) _, by simp⟩
        · have hN := hidep hnew
          clear hnew
          go_wp2
          go_meet
          exact ⟨rfl, by simp [World.cell?_alloc_new], by simp [World.cell?_alloc_new], hN.out, by simp⟩
      case rest =>
        obtain ⟨rfl, hp, hq, hbc, hsc⟩ := hcut
        have hown2 := hown.below hbc
        have hbw2 : Below w.heap.size w wc := hbw.trans (hbc.mono hbs)
        have hlt := hown.lt
        clear hown hbw HG2
        by_cases hyes : i < p ∨ k < q
        · have HE3 := hidep (HE2.out.trans (by rw [if_pos hyes]))
          have hs2 := (hb.below hbw2).part (x := k) (y := q) (m := cb) (by omega) (by omega) (by omega) (Nat.le_refl _)
          have ho1 := symsC_one ((b.drop k).take (q - k))
          have HL : Hid (((b.drop k).take (q - k)).length = q - k) := hidep (by simp; omega)
          have hI1 : (0 : Int) ≤ (k : Int) := by omega
          have hI2 : (k : Int) ≤ (q : Int) := by omega
          have hI3 : (q : Int) ≤ (cb : Int) := by omega
          have hI4 : (0 : Int) ≤ (q : Int) := by omega
          have hyy : (i : Int) < (p : Int) ∨ (¬ (i : Int) < (p : Int) ∧ (k : Int) < (q : Int)) := by omega
          have HYY := hidep hyy
          clear hyy hyes
          have hwr1 : IntKind.i64.wrap ((p : Int) - (i : Int)) = (p : Int) - (i : Int) := IntWalk.i64_in _ (by omega)
          have HWR := hidep hwr1
          clear hwr1
          by_cases hcq : cb = k
          · obtain rfl : q = k := by omega
            subst hcq
            simp only [if_true, Nat.sub_self] at hs2 ho1 HL
            rcases HYY.out with hyy | ⟨hyy, hyy2⟩
            · go_upto_region 12 with (fail)
              go_cut [7] (fun s7 wd => OwnEs wd w.heap.size s7 (out ++ [⟨(i : Int), (p : Int) - i, (b.drop cb).take 0⟩]) ∧ wd.cell? ⟨wr.heap.size, 0, none⟩ = some (.int .i64 p) ∧ wd.cell? ⟨wr.heap.size, 1, none⟩ = some (.int .i64 cb) ∧ Below w.heap.size w wd)
              case first =>
                have hwr1 := HWR.out
                go_region_held3 (fun w' => w'.cell? ⟨wr.heap.size, 0, none⟩ = some (.int .i64 p) ∧ w'.cell? ⟨wr.heap.size, 1, none⟩ = some (.int .i64 cb))
                  (first | go_keep | exact ⟨hk0, hk2⟩ | exact ⟨hj0, hj2⟩)
                  (first
                    | (refine step_append_rd _ (by rfl) (.tmp 48) (.tmp 53) (by rfl) slSyms wc.heap.size (.slice none 0 0) 0 [] (by rfl) (World.ownsRow_nil _ _ _ _) _ _ _ _ (by rfl) (by exact hs2) ho1 (by unfold maxLen; rw [HL.out]; omega) (by rw [HL.out]; omega) (by exact Nat.le_refl _) ?_; intro v1 w1 hown1 hgr1 hat hnl; clear hat hnl; simp only [Nat.zero_add, List.nil_append] at hown1; have hsa : SymsAt w1 v1 ((b.drop cb).take 0) := SymsAt.of_own hown1; rw [HL.out] at hown1; obtain ⟨a1, c1, rfl, hc1, hc2⟩ := (Rd.of_own hown1).form; have hk0 : w1.cell? ⟨wr.heap.size, 0, none⟩ = some (.int .i64 p) := hgr1.cell (by exact hp) (by simp [Value.ownBlock]); have hk2 : w1.cell? ⟨wr.heap.size, 1, none⟩ = some (.int .i64 cb) := hgr1.cell (by exact hq) (by simp [Value.ownBlock]); have hb1 : Below wc.heap.size wc w1 := (Below.refl _ _).drew.grown hgr1 (Nat.le_refl _) (by simp [Value.ownBlock]); clear hgr1)
                    | (obtain ⟨us2, hul2, huo2, hus2⟩ := hown2.below (hb1.alloc hb1.size (.cells #[.int .i64 i, .int .i64 ((p : Int) - (i : Int)), .slice a1 0 c1] 53)); have hfr := Rd.fresh w1 #[.int .i64 i, .int .i64 ((p : Int) - (i : Int)), .slice a1 0 c1] 53 3 1 rfl (by decide); have hxa : Below w1.heap.size w1 (w1.alloc (.cells #[.int .i64 i, .int .i64 ((p : Int) - (i : Int)), .slice a1 0 c1] 53)) := (Below.refl _ _).alloc (Nat.le_refl _) _; refine step_append_rd _ (by rfl) (.tmp 42) (.tmp 56) (by rfl) slEdits w.heap.size (.slice ao out.length co) _ _ (by rfl) (by exact huo2) _ _ _ _ (by rfl) (by exact hfr) (by intro u hu; simp at hu; rcases hu with rfl | rfl | rfl <;> rfl) (by unfold maxLen; omega) (by omega) (by have := hb1.size; have := hbw2.size; simp; omega) ?_; intro v2 w2 hown3 hgr2 hat hnl; clear hat hnl hfr; have hj0 : w2.cell? ⟨wr.heap.size, 0, none⟩ = some (.int .i64 p) := hgr2.cell (by exact (hxa.cell (p := ⟨wr.heap.size, 0, none⟩) (Nat.lt_of_lt_of_le hsc hb1.size)).trans hk0) (fun e => absurd (hlt _ e.symm).2 (Nat.lt_irrefl _)); have hj2 : w2.cell? ⟨wr.heap.size, 1, none⟩ = some (.int .i64 cb) := hgr2.cell (by exact (hxa.cell (p := ⟨wr.heap.size, 1, none⟩) (Nat.lt_of_lt_of_le hsc hb1.size)).trans hk2) (fun e => absurd (hlt _ e.symm).2 (Nat.lt_irrefl _)); have hfin := OwnEs.snoc (e := ⟨(i : Int), (p : Int) - i, (b.drop cb).take 0⟩) hul2 huo2 hus2 (hsa.below hxa) hown3 hgr2; have hbf : Below w.heap.size w w2 := ((hbw2.trans (hb1.mono (hbw2.size))).trans (hxa.mono (by have := hb1.size; have := hbw2.size; omega))).grown hgr2 (by have := hb1.size; have := hbw2.size; simp; omega) (fun g hg => (huo2.lt g hg).1)))
                all_goals
                  clear hwr1
                  go_wp2
                  go_meet
                  exact ⟨hfin, hj0, hj2, hbf⟩
              case rest =>
                obtain ⟨hfin, hj0, hj2, hbf⟩ := hcut
                clear hp hq hown2 hs2
                go_wp2
                go_roundg (l.length + 1 - (j + 1))
                case measure => have := HG.out; omega
                case rel => exact ⟨p + 1, cb + 1, j + 1, _, by omega, rfl, by go_num, by go_num, by go_num, by omega, by omega, by simp; omega, HNX, (by simpa using HE3), hfin, hbf⟩
            · exact absurd hyy2 (by omega)
          · simp only [if_neg hcq] at hs2
            rcases HYY.out with hyy | ⟨hyy, hyy2⟩
            · go_upto_region 12 with (fail)
              go_cut [7] (fun s7 wd => OwnEs wd w.heap.size s7 (out ++ [⟨(i : Int), (p : Int) - i, (b.drop k).take (q - k)⟩]) ∧ wd.cell? ⟨wr.heap.size, 0, none⟩ = some (.int .i64 p) ∧ wd.cell? ⟨wr.heap.size, 1, none⟩ = some (.int .i64 q) ∧ Below w.heap.size w wd)
              case first =>
                have hwr1 := HWR.out
                go_region_held3 (fun w' => w'.cell? ⟨wr.heap.size, 0, none⟩ = some (.int .i64 p) ∧ w'.cell? ⟨wr.heap.size, 1, none⟩ = some (.int .i64 q))
                  (first | go_keep | exact ⟨hk0, hk2⟩ | exact ⟨hj0, hj2⟩)
                  (first
                    | (refine step_append_rd _ (by rfl) (.tmp 48) (.tmp 53) (by rfl) slSyms wc.heap.size (.slice none 0 0) 0 [] (by rfl) (World.ownsRow_nil _ _ _ _) _ _ _ _ (by rfl) (by exact hs2) ho1 (by unfold maxLen; rw [HL.out]; omega) (by rw [HL.out]; omega) (by exact Nat.le_refl _) ?_; intro v1 w1 hown1 hgr1 hat hnl; clear hat hnl; simp only [Nat.zero_add, List.nil_append] at hown1; have hsa : SymsAt w1 v1 ((b.drop k).take (q - k)) := SymsAt.of_own hown1; rw [HL.out] at hown1; obtain ⟨a1, c1, rfl, hc1, hc2⟩ := (Rd.of_own hown1).form; have hk0 : w1.cell? ⟨wr.heap.size, 0, none⟩ = some (.int .i64 p) := hgr1.cell (by exact hp) (by simp [Value.ownBlock]); have hk2 : w1.cell? ⟨wr.heap.size, 1, none⟩ = some (.int .i64 q) := hgr1.cell (by exact hq) (by simp [Value.ownBlock]); have hb1 : Below wc.heap.size wc w1 := (Below.refl _ _).drew.grown hgr1 (Nat.le_refl _) (by simp [Value.ownBlock]); clear hgr1)
                    | (obtain ⟨us2, hul2, huo2, hus2⟩ := hown2.below (hb1.alloc hb1.size (.cells #[.int .i64 i, .int .i64 ((p : Int) - (i : Int)), .slice a1 (q - k) c1] 53)); have hfr := Rd.fresh w1 #[.int .i64 i, .int .i64 ((p : Int) - (i : Int)), .slice a1 (q - k) c1] 53 3 1 rfl (by decide); have hxa : Below w1.heap.size w1 (w1.alloc (.cells #[.int .i64 i, .int .i64 ((p : Int) - (i : Int)), .slice a1 (q - k) c1] 53)) := (Below.refl _ _).alloc (Nat.le_refl _) _; refine step_append_rd _ (by rfl) (.tmp 42) (.tmp 56) (by rfl) slEdits w.heap.size (.slice ao out.length co) _ _ (by rfl) (by exact huo2) _ _ _ _ (by rfl) (by exact hfr) (by intro u hu; simp at hu; rcases hu with rfl | rfl | rfl <;> rfl) (by unfold maxLen; omega) (by omega) (by have := hb1.size; have := hbw2.size; simp; omega) ?_; intro v2 w2 hown3 hgr2 hat hnl; clear hat hnl hfr; have hj0 : w2.cell? ⟨wr.heap.size, 0, none⟩ = some (.int .i64 p) := hgr2.cell (by exact (hxa.cell (p := ⟨wr.heap.size, 0, none⟩) (Nat.lt_of_lt_of_le hsc hb1.size)).trans hk0) (fun e => absurd (hlt _ e.symm).2 (Nat.lt_irrefl _)); have hj2 : w2.cell? ⟨wr.heap.size, 1, none⟩ = some (.int .i64 q) := hgr2.cell (by exact (hxa.cell (p := ⟨wr.heap.size, 1, none⟩) (Nat.lt_of_lt_of_le hsc hb1.size)).trans hk2) (fun e => absurd (hlt _ e.symm).2 (Nat.lt_irrefl _)); have hfin := OwnEs.snoc (e := ⟨(i : Int), (p : Int) - i, (b.drop k).take (q - k)⟩) hul2 huo2 hus2 (hsa.below hxa) hown3 hgr2; have hbf : Below w.heap.size w w2 := ((hbw2.trans (hb1.mono (hbw2.size))).trans (hxa.mono (by have := hb1.size; have := hbw2.size; omega))).grown hgr2 (by have := hb1.size; have := hbw2.size; simp; omega) (fun g hg => (huo2.lt g hg).1)))
                all_goals
                  clear hwr1
                  go_wp2
                  go_meet
                  exact ⟨hfin, hj0, hj2, hbf⟩
              case rest =>
                obtain ⟨hfin, hj0, hj2, hbf⟩ := hcut
                clear hp hq hown2 hs2
                go_wp2
                go_roundg (l.length + 1 - (j + 1))
                case measure => have := HG.out; omega
                case rel => exact ⟨p + 1, q + 1, j + 1, _, by omega, rfl, by go_num, by go_num, by go_num, by omega, by omega, by simp; omega, HNX, HE3, hfin, hbf⟩
            · go_upto_region 12 with (fail)
              go_cut [7] (fun s7 wd => OwnEs wd w.heap.size s7 (out ++ [⟨(i : Int), (p : Int) - i, (b.drop k).take (q - k)⟩]) ∧ wd.cell? ⟨wr.heap.size, 0, none⟩ = some (.int .i64 p) ∧ wd.cell? ⟨wr.heap.size, 1, none⟩ = some (.int .i64 q) ∧ Below w.heap.size w wd)
              case first =>
                have hwr1 := HWR.out
                go_region_held3 (fun w' => w'.cell? ⟨wr.heap.size, 0, none⟩ = some (.int .i64 p) ∧ w'.cell? ⟨wr.heap.size, 1, none⟩ = some (.int .i64 q))
                  (first | go_keep | exact ⟨hk0, hk2⟩ | exact ⟨hj0, hj2⟩)
                  (first
                    | (refine step_append_rd _ (by rfl) (.tmp 48) (.tmp 53) (by rfl) slSyms wc.heap.size (.slice none 0 0) 0 [] (by rfl) (World.ownsRow_nil _ _ _ _) _ _ _ _ (by rfl) (by exact hs2) ho1 (by unfold maxLen; rw [HL.out]; omega) (by rw [HL.out]; omega) (by exact Nat.le_refl _) ?_; intro v1 w1 hown1 hgr1 hat hnl; clear hat hnl; simp only [Nat.zero_add, List.nil_append] at hown1; have hsa : SymsAt w1 v1 ((b.drop k).take (q - k)) := SymsAt.of_own hown1; rw [HL.out] at hown1; obtain ⟨a1, c1, rfl, hc1, hc2⟩ := (Rd.of_own hown1).form; have hk0 : w1.cell? ⟨wr.heap.size, 0, none⟩ = some (.int .i64 p) := hgr1.cell (by exact hp) (by simp [Value.ownBlock]); have hk2 : w1.cell? ⟨wr.heap.size, 1, none⟩ = some (.int .i64 q) := hgr1.cell (by exact hq) (by simp [Value.ownBlock]); have hb1 : Below wc.heap.size wc w1 := (Below.refl _ _).drew.grown hgr1 (Nat.le_refl _) (by simp [Value.ownBlock]); clear hgr1)
                    | (obtain ⟨us2, hul2, huo2, hus2⟩ := hown2.below (hb1.alloc hb1.size (.cells #[.int .i64 i, .int .i64 ((p : Int) - (i : Int)), .slice a1 (q - k) c1] 53)); have hfr := Rd.fresh w1 #[.int .i64 i, .int .i64 ((p : Int) - (i : Int)), .slice a1 (q - k) c1] 53 3 1 rfl (by decide); have hxa : Below w1.heap.size w1 (w1.alloc (.cells #[.int .i64 i, .int .i64 ((p : Int) - (i : Int)), .slice a1 (q - k) c1] 53)) := (Below.refl _ _).alloc (Nat.le_refl _) _; refine step_append_rd _ (by rfl) (.tmp 42) (.tmp 56) (by rfl) slEdits w.heap.size (.slice ao out.length co) _ _ (by rfl) (by exact huo2) _ _ _ _ (by rfl) (by exact hfr) (by intro u hu; simp at hu; rcases hu with rfl | rfl | rfl <;> rfl) (by unfold maxLen; omega) (by omega) (by have := hb1.size; have := hbw2.size; simp; omega) ?_; intro v2 w2 hown3 hgr2 hat hnl; clear hat hnl hfr; have hj0 : w2.cell? ⟨wr.heap.size, 0, none⟩ = some (.int .i64 p) := hgr2.cell (by exact (hxa.cell (p := ⟨wr.heap.size, 0, none⟩) (Nat.lt_of_lt_of_le hsc hb1.size)).trans hk0) (fun e => absurd (hlt _ e.symm).2 (Nat.lt_irrefl _)); have hj2 : w2.cell? ⟨wr.heap.size, 1, none⟩ = some (.int .i64 q) := hgr2.cell (by exact (hxa.cell (p := ⟨wr.heap.size, 1, none⟩) (Nat.lt_of_lt_of_le hsc hb1.size)).trans hk2) (fun e => absurd (hlt _ e.symm).2 (Nat.lt_irrefl _)); have hfin := OwnEs.snoc (e := ⟨(i : Int), (p : Int) - i, (b.drop k).take (q - k)⟩) hul2 huo2 hus2 (hsa.below hxa) hown3 hgr2; have hbf : Below w.heap.size w w2 := ((hbw2.trans (hb1.mono (hbw2.size))).trans (hxa.mono (by have := hb1.size; have := hbw2.size; omega))).grown hgr2 (by have := hb1.size; have := hbw2.size; simp; omega) (fun g hg => (huo2.lt g hg).1)))
                all_goals
                  clear hwr1
                  go_wp2
                  go_meet
                  exact ⟨hfin, hj0, hj2, hbf⟩
              case rest =>
                obtain ⟨hfin, hj0, hj2, hbf⟩ := hcut
                clear hp hq hown2 hs2
                go_wp2
                go_roundg (l.length + 1 - (j + 1))
                case measure => have := HG.out; omega
                case rel => exact ⟨p + 1, q + 1, j + 1, _, by omega, rfl, by go_num, by go_num, by go_num, by omega, by omega, by simp; omega, HNX, HE3, hfin, hbf⟩
        · have HE3 := hidep (HE2.out.trans (by rw [if_neg hyes, List.append_nil]))
          have hn1 : ¬ (i : Int) < (p : Int) := by omega
          have hn2 : ¬ (k : Int) < (q : Int) := by omega
          clear hyes
          go_wp2
          go_roundg (l.length + 1 - (j + 1))
          case measure => have := HG.out; omega
          case rel => exact ⟨p + 1, q + 1, j + 1, out, by omega, rfl, by go_num, by go_num, by go_num, by omega, by omega, by omega, HNX, HE3, hown2, hbw2⟩
    · have HF : Hid (editsZ a b l = out) := hidep (by
        rw [HE.out, List.drop_eq_nil_of_le (by simp; omega)]
        simp [editsGo])
      go_wp2
      go_ret
      rw [HF.out]
      exact ⟨_, rfl, hown, hbw⟩
end Go.Proofs.Ythhjnafhpmgceaa
