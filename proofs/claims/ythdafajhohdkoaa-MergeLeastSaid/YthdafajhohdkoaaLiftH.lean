/- Contract: the closure of the plan's choices, for all places. -/
import Derived.Test.YthdafajhohdkoaaLiftG
namespace Go.Proofs.Ythdafajhohdkoaa
open Go.RowKit Go.Lab
theorem Inv.drewN {w0 w : World} {S many : Nat} {vp : Value} {outs : List (List Edit)} {ls : List (Nat × Nat)} (h : Inv w0 S vp many w outs ls) (n : Nat) : Inv w0 S vp many (w.drewN n) outs ls := by
  obtain ⟨vo, h1, h2⟩ := h.out
  obtain ⟨vl, h3, h4⟩ := h.list
  exact ⟨below_drewN h.low n, h.plan, h.most, h.self, ⟨vo, h1, h2.below (below_drewN (Below.refl _ _) n)⟩, ⟨vl, h3, hown_below h4 (below_drewN (Below.refl _ _) n)⟩⟩
/-- What is left of the rows behind one place. -/
theorem rowsP_split {a b : List Sym} {f i k n m : Nat} (hn : n < a.length - i) (hm : m < b.length - k) :
    ∃ R, rowsP a b f i k (a.length - i) = (rowsP a b f i k n ++ rowP a b f i k (i + n) m) ++ (blkP a b f i k (i + n) (k + m) ++ R) := by
  obtain ⟨d, hd⟩ : ∃ d, a.length - i = n + 1 + d := ⟨a.length - i - (n + 1), by omega⟩
  obtain ⟨c, hc⟩ : ∃ c, b.length - k = m + 1 + c := ⟨b.length - k - (m + 1), by omega⟩
  have h1 : rowsP a b f i k (n + 1 + d) = rowsP a b f i k (n + 1) ++ (List.range' (i + (n + 1)) d).flatMap (fun x => rowP a b f i k x (b.length - k)) := by
    unfold rowsP
    rw [← List.range'_append_1, List.flatMap_append]
  have h2 : rowP a b f i k (i + n) (m + 1 + c) = rowP a b f i k (i + n) (m + 1) ++ (List.range' (k + (m + 1)) c).flatMap (blkP a b f i k (i + n)) := by
    unfold rowP
    rw [← List.range'_append_1, List.flatMap_append]
  refine ⟨(List.range' (k + (m + 1)) c).flatMap (blkP a b f i k (i + n)) ++ (List.range' (i + (n + 1)) d).flatMap (fun x => rowP a b f i k x (b.length - k)), ?_⟩
  rw [hd, h1, rowsP_succ, hc, h2, rowP_succ]
  simp only [List.append_assoc]
theorem take_join {α : Type} {P B R : List α} {c : Nat} (h1 : P.length ≤ c) (h2 : c ≤ P.length + (B.take (c - P.length)).length) : (P ++ (B ++ R)).take c = P ++ B.take (c - P.length) := by
  rw [take_more h1]
  congr 1
  rw [List.length_take] at h2
  rw [List.take_append_of_le_length (by omega)]
set_option maxHeartbeats 8000000 in
set_option maxRecDepth 100000 in
theorem visit_any (a b : List Sym) (va vb vp : Value) (w0 : World) (S many : Nat) (hS : S = w0.heap.size) (hla : a.length ≤ 2048) (hlb : b.length ≤ 2048) (hm : many ≤ 64)
    (hp : PlanAt w0 vp va vb a b) (ha : SymsAt w0 va a) (hb : SymsAt w0 vb b) : ∀ (f i k : Nat) (outs : List (List Edit)) (ls : List (Nat × Nat)) (w : World),
    a.length - i ≤ f → i ≤ a.length → k ≤ b.length → outs.length < many → ls.length ≤ i → (∀ p, incP a.length b.length i k p → incP a.length b.length 0 0 (ls ++ p)) → Inv w0 S vp many w outs ls →
    Calls Try.prog 79 #[.int .i64 i, .int .i64 k, .pointer (some ⟨S, 0, none⟩), .pointer (some ⟨S + 2, 0, none⟩), .pointer (some ⟨S + 3, 0, none⟩), .pointer (some ⟨S + 4, 0, none⟩), .pointer (some ⟨S + 1, 0, none⟩)] w
      fun e w' => e = .returned (.tuple #[]) ∧ Inv w0 S vp many w' (outs ++ ((enumP a b f i k).take (many - outs.length)).map (fun p => editsZ a b (ls ++ p))) ls := by
  intro f
  induction f with
  | zero =>
    intro i k outs ls w hf hi hk ho hls hinc hI
    exact visit_none a b va vb vp w0 S many hS hla hlb hm hp ha hb 0 i k outs ls w hi hk ho hls hinc hI (lcsM_end_i (by omega))
  | succ f ih =>
    intro i k outs ls w hf hi hk ho hls hinc hI
    by_cases h0 : lcsM a b i k = 0
    · exact visit_none a b va vb vp w0 S many hS hla hlb hm hp ha hb (f + 1) i k outs ls w hi hk ho hls hinc hI h0
    have HE := hidep (enumP_succ (f := f) h0)
    obtain ⟨E, hEE⟩ : ∃ E : List (Nat × Nat) → List Edit, E = fun p => editsZ a b (ls ++ p) := ⟨_, rfl⟩
    rw [← hEE]
    obtain ⟨RES, hRES⟩ : ∃ R, R = outs ++ ((enumP a b (f + 1) i k).take (many - outs.length)).map E := ⟨_, rfl⟩
    rw [← hRES]
    have HRES := hidep hRES
    have HEE := hidep hEE
    clear hRES hEE
    subst hS
    obtain ⟨pb, ob, rb, hvp, hpb, hO, hR⟩ := hp
    subst hvp
    obtain ⟨aa, ca, rfl, hca1, hca2⟩ := ha.form
    obtain ⟨ab, cb, rfl, hcb1, hcb2⟩ := hb.form
    unfold maxLen at hca2 hcb2
    have hpbl := lt_of_block hpb
    have hOl := hO.lt
    have HP := hidep (⟨pb, ob, rb, rfl, hpb, hO, hR⟩ : PlanAt w0 (.pointer (some ⟨pb, 0, none⟩)) _ _ a b)
    -- what stands in the plan, in every world of the walk
    have HC : Hid (∀ W o l, Inv w0 w0.heap.size (.pointer (some ⟨pb, 0, none⟩)) many W o l → W.cell? ⟨pb, 0, none⟩ = some (.slice aa a.length ca) ∧ W.cell? ⟨pb, 1, none⟩ = some (.slice ab b.length cb) ∧ W.cell? ⟨pb, 2, none⟩ = some (.slice (some ⟨ob, 0, none⟩) (a.length + 1) (a.length + 1))) := hidep (fun W o l h => by
      have hB := (h.low.block pb hpbl).trans hpb
      simp [World.cell?, hB])
    have HO : Hid (∀ W o l j, Inv w0 w0.heap.size (.pointer (some ⟨pb, 0, none⟩)) many W o l → j ≤ a.length → W.cell? ⟨ob, j, none⟩ = some (.slice (some ⟨rb j, 0, none⟩) (b.length + 1) (b.length + 1))) := hidep (fun W o l j h hj => (h.low.cell (p := ⟨ob, j, none⟩) hOl).trans (hO.cell (i := j) (by omega)))
    have HR : Hid (∀ W o l j c, Inv w0 w0.heap.size (.pointer (some ⟨pb, 0, none⟩)) many W o l → j ≤ a.length → c ≤ b.length → W.cell? ⟨rb j, c, none⟩ = some (.int .i16 (lcsM a b j c))) := hidep (fun W o l j c h hj hc => (h.low.cell (p := ⟨rb j, c, none⟩) (hR j hj).lt).trans ((hR j hj).cell (i := c) (by omega)))
    have hc0 := cell_of_one hI.plan
    obtain ⟨hp0, hp1, hp2⟩ := HC.out _ _ _ hI
    have ho1 := HO.out _ _ _ i hI hi
    have hr1 := HR.out _ _ _ i k hI hi hk
    have hne : ((lcsM a b i k : Int) == 0) = false := by simpa using h0
    have hI1 : (0 : Int) ≤ (i : Int) := by omega
    have hI2 : (i : Int) < (a.length : Int) + 1 := by omega
    have hI3 : (0 : Int) ≤ (k : Int) := by omega
    have hI4 : (k : Int) < (b.length : Int) + 1 := by omega
    clear hR hO hpb
    go_enter Try.func79, Try.ntmps79
    go_step3
    go_wp2
    go_step3
    go_wp2
    go_loopg [10] (a.length - i) (fun g x wr => ∃ n : Nat, n ≤ a.length - i ∧ a.length - i - n = g ∧ x = .int .i64 ((i + n : Nat) : Int) ∧
      Inv w0 w0.heap.size (.pointer (some ⟨pb, 0, none⟩)) many wr (outs ++ (rowsP a b f i k n).map E) ls ∧ Hid ((outs ++ (rowsP a b f i k n).map E).length < many))
    case atStart => exact ⟨0, by omega, by omega, rfl, by rw [rowsP_zero]; simpa using hI, hidep (by rw [rowsP_zero]; simpa using ho)⟩
    case round =>
      obtain ⟨n, hn, hg, rfl, hIr, hless⟩ := hrel
      have HG := hidep hg
      clear hg
      obtain ⟨x, hx⟩ : ∃ x : Nat, x = i + n := ⟨_, rfl⟩
      rw [← hx]
      have HX := hidep hx
      have hxi : i ≤ x := by omega
      clear hx
      obtain ⟨wo, rfl⟩ : ∃ wo : World, wo = wr := ⟨_, rfl⟩
      have hc0 := cell_of_one hIr.plan
      obtain ⟨hp0, hp1, hp2⟩ := HC.out _ _ _ hIr
      have hI5 : (0 : Int) ≤ (x : Int) := by omega
      by_cases hlt : x < a.length ∧ lcsM a b x k = lcsM a b i k
      · obtain ⟨hxl, heq⟩ := hlt
        have ho1 := HO.out _ _ _ x hIr (by omega)
        have hr1 := HR.out _ _ _ x k hIr (by omega) hk
        rw [heq] at hr1
        have hI6 : (x : Int) < (a.length : Int) := by omega
        have hI7 : (x : Int) < (a.length : Int) + 1 := by omega
        clear heq
        go_wp2
        go_loopg [11] (b.length - k) (fun g y wl => ∃ m : Nat, m ≤ b.length - k ∧ b.length - k - m = g ∧ y = .int .i64 ((k + m : Nat) : Int) ∧
          Inv w0 w0.heap.size (.pointer (some ⟨pb, 0, none⟩)) many wl (outs ++ (rowsP a b f i k n ++ rowP a b f i k x m).map E) ls ∧ Hid ((outs ++ (rowsP a b f i k n ++ rowP a b f i k x m).map E).length < many))
        case atStart => exact ⟨0, by omega, by omega, rfl, by rw [rowP_zero, List.append_nil]; exact hIr, by rw [rowP_zero, List.append_nil]; exact hless⟩
        case round =>
          obtain ⟨m, hm2, hg2, rfl, hIm, hless2⟩ := hrel
          have HG2 := hidep hg2
          clear hg2 hIr hless hc0 hp0 hp1 hp2 ho1 hr1
          obtain ⟨y, hy⟩ : ∃ y : Nat, y = k + m := ⟨_, rfl⟩
          rw [← hy]
          have HY := hidep hy
          have hyk : k ≤ y := by omega
          clear hy
          have hc0 := cell_of_one hIm.plan
          obtain ⟨hp0, hp1, hp2⟩ := HC.out _ _ _ hIm
          have ho1 := HO.out _ _ _ x hIm (by omega)
          have hI8 : (0 : Int) ≤ (y : Int) := by omega
          by_cases hlt : y < b.length ∧ lcsM a b x y = lcsM a b i k
          · obtain ⟨hyl, heq⟩ := hlt
            have hr1 := HR.out _ _ _ x y hIm (by omega) (by omega)
            rw [heq] at hr1
            clear heq
            have ho2 := HO.out _ _ _ (x + 1) hIm (by omega)
            have hr2 := HR.out _ _ _ (x + 1) (y + 1) hIm (by omega) (by omega)
            obtain ⟨ba, oa, rfl, hba, hda1, hda2⟩ := ha.at (k := x) hxl
            obtain ⟨bb, obb, rfl, hbb, hdb1, hdb2⟩ := hb.at (k := y) hyl
            have hda1 := (hIm.low.cell (p := ⟨ba, oa + x * 2, none⟩) hba).trans hda1
            have hda2 := (hIm.low.cell (p := ⟨ba, oa + x * 2 + 1, none⟩) hba).trans hda2
            have hdb1 := (hIm.low.cell (p := ⟨bb, obb + y * 2, none⟩) hbb).trans hdb1
            have hdb2 := (hIm.low.cell (p := ⟨bb, obb + y * 2 + 1, none⟩) hbb).trans hdb2
            have hml := (lcsM_le a b (x + 1) (y + 1)).1
            have hM1 : (lcsM a b (x + 1) (y + 1) : Int) ≤ 2048 := by omega
            have hI9 : (y : Int) < (b.length : Int) := by omega
            have hI10 : (y : Int) < (b.length : Int) + 1 := by omega
            have hI11 : (0 : Int) ≤ (x : Int) + 1 := by omega
            have hI12 : (x : Int) + 1 < (a.length : Int) + 1 := by omega
            have hI13 : (0 : Int) ≤ (y : Int) + 1 := by omega
            have hI14 : (y : Int) + 1 < (b.length : Int) + 1 := by omega
            have HBY := hidep (fun h h2 => blkP_yes (f := f) (i := i) (k := k) hxl hyl h h2)
            have HBN := hidep (fun h => blkP_no (f := f) (i := i) (k := k) hxl hyl h)
            have HNX : Hid ((rowsP a b f i k n ++ rowP a b f i k x (m + 1)) = (rowsP a b f i k n ++ rowP a b f i k x m) ++ blkP a b f i k x y) := hidep (by rw [rowP_succ, ← List.append_assoc, ← HY.out])
            have HIH : Hid (∀ W LL, LL.length < many → Inv w0 w0.heap.size (.pointer (some ⟨pb, 0, none⟩)) many W LL (ls ++ [(x, y)]) →
                Calls Try.prog 79 #[.int .i64 ((x : Int) + 1), .int .i64 ((y : Int) + 1), .pointer (some ⟨w0.heap.size, 0, none⟩), .pointer (some ⟨w0.heap.size + 2, 0, none⟩), .pointer (some ⟨w0.heap.size + 3, 0, none⟩), .pointer (some ⟨w0.heap.size + 4, 0, none⟩), .pointer (some ⟨w0.heap.size + 1, 0, none⟩)] W
                  fun e w' => e = .returned (.tuple #[]) ∧ Inv w0 w0.heap.size (.pointer (some ⟨pb, 0, none⟩)) many w' (LL ++ ((enumP a b f (x + 1) (y + 1)).take (many - LL.length)).map (fun p => E ((x, y) :: p))) (ls ++ [(x, y)])) := hidep (fun W LL hLL hW => by
              have h := ih (x + 1) (y + 1) LL (ls ++ [(x, y)]) W (by omega) (by omega) (by omega) hLL (by simp; omega) (fun p hp => by
                have := hinc ((x, y) :: p) ⟨hxi, hyk, hxl, hyl, hp⟩
                simpa using this) hW
              rw [HEE.out]
              simpa [List.append_assoc] using h)
            obtain ⟨L, hL⟩ : ∃ L, L = outs ++ (rowsP a b f i k n ++ rowP a b f i k x m).map E := ⟨_, rfl⟩
            rw [← hL] at hIm hless2
            have HL := hidep hL
            clear hL hml ih
            generalize hX0 : a[x] = X at *
            generalize hY0 : b[y] = Y at *
            clear hX0 hY0
            obtain ⟨x1, x2⟩ := X
            obtain ⟨y1, y2⟩ := Y
            simp only at hda1 hda2 hdb1 hdb2
            generalize hM1' : lcsM a b (x + 1) (y + 1) = M1 at *
            generalize hM0' : lcsM a b i k = M0 at *
            clear hM1' hM0'
            have hG := run_guard_sym
            go_upto_region 9 with (fail)
            by_cases hxy : (⟨x1, x2⟩ : Sym) = ⟨y1, y2⟩
            · have hE : ∀ W, (binOp .neq 34 (.agg #[.int .i64 x1, .int .u8 x2]) (.agg #[.int .i64 y1, .int .u8 y2])).run Try.prog W = .ok (.bool false) W := fun W => by
                rw [run_neq_sym]
                injection hxy with e1 e2
                subst e1 e2
                simp
              have HXY := hidep hxy
              clear hxy
              by_cases hM : 1 + M1 = M0
              · have hM2 : ((1 + (M1 : Int)) != (M0 : Int)) = false := by simp; omega
                have HM := hidep hM
                clear hM
                have hwr1 : IntKind.i64.wrap ((x : Int) + 1) = (x : Int) + 1 := IntWalk.i64_in _ (by omega)
                have hwr2 : IntKind.i64.wrap ((y : Int) + 1) = (y : Int) + 1 := IntWalk.i64_in _ (by omega)
                have hwr3 : IntKind.i16.wrap (1 + (M1 : Int)) = 1 + (M1 : Int) := IntWalk.i16_in _ (by omega)
                go_quiet (fail)
                clear hwr1 hwr2 hwr3
                have hId := hIm.drewN nq
                generalize wr.drewN nq = wd at *
                clear hda1 hda2 hdb1 hdb2 ho1 ho2 hr1 hr2 hIm
                obtain ⟨vl, hvl, hlist⟩ := hId.list
                have HLI := hidep hlist
                have c3 := cell_of_one hvl
                have f3 := free_of_one hvl
                obtain ⟨al, cl, rfl, hcl, hcl2⟩ := (Rd.of_own hlist).form
                unfold maxLen at hcl2
                have hsd := hId.size
                have hbd : Below wd.heap.size wd (wd.alloc (.cells #[.int .i64 x, .int .i64 y] 45)) := (Below.refl _ _).alloc (Nat.le_refl _) _
                have hlist2 := hown_below hlist hbd
                have hfr := Rd.fresh wd #[.int .i64 x, .int .i64 y] 45 2 1 rfl (by decide)
                have HB3 : Hid (∀ w2, (wd.alloc (.cells #[.int .i64 x, .int .i64 y] 45)).grownBy w2 (Value.slice al ls.length cl).ownBlock → w2.heap[w0.heap.size + 3]? = some (.cells #[.slice al ls.length cl] 42 (0, 0))) := hidep (fun w2 hg =>
                  (hg.block _ (by simp; omega) (fun e => by have := (hlist.lt _ e.symm).1; omega)).trans ((hbd.block _ (by omega)).trans hvl))
                have HB4 : Hid (∀ w2, (wd.alloc (.cells #[.int .i64 x, .int .i64 y] 45)).grownBy w2 (Value.slice al ls.length cl).ownBlock → w2.cell? ⟨w0.heap.size + 4, 0, none⟩ = some (visitV w0.heap.size)) := hidep (fun w2 hg =>
                  cell_of_one ((hg.block _ (by simp; omega) (fun e => by have := (hlist.lt _ e.symm).1; omega)).trans ((hbd.block _ (by omega)).trans hId.self)))
                have HIN : Hid (∀ w2 v2, (wd.alloc (.cells #[.int .i64 x, .int .i64 y] 45)).grownBy w2 (Value.slice al ls.length cl).ownBlock → w2.ownsRow (w0.heap.size + 5) 45 2 v2 (ls.length + 1) (pairsC ls ++ [.int .i64 x, .int .i64 y]) →
                    Inv w0 w0.heap.size (.pointer (some ⟨pb, 0, none⟩)) many (w2.setCell ⟨w0.heap.size + 3, 0, none⟩ v2) L (ls ++ [(x, y)])) := hidep (fun w2 v2 hg ho => by
                  refine hId.listTo rfl hbd hg hvl hlist ?_
                  rw [pairsC_append, List.length_append]
                  exact ho)
                have HL4 : Hid (∀ W LL, Inv w0 w0.heap.size (.pointer (some ⟨pb, 0, none⟩)) many W LL (ls ++ [(x, y)]) → ∃ g c, W.heap[w0.heap.size + 3]? = some (.cells #[.slice (some ⟨g, 0, none⟩) (ls.length + 1) c] 42 (0, 0)) ∧
                    W.ownsRow (w0.heap.size + 5) 45 2 (.slice (some ⟨g, 0, none⟩) (ls.length + 1) c) (ls.length + 1) (pairsC ls ++ [.int .i64 x, .int .i64 y]) ∧ ls.length + 1 ≤ c ∧ c ≤ 2 ^ 63 - 1) := hidep (fun W LL h => by
                  obtain ⟨v, hv, ho⟩ := h.list
                  rw [pairsC_append, List.length_append] at ho
                  rcases ho.2 with ⟨_, h2⟩ | ⟨g, c, cur, hv2, hg, hh, hr1, hr2, hr3⟩
                  · simp at h2
                  · subst hv2
                    exact ⟨g, c, hv, ho, hr1, hr2⟩)
                have hll : ls.length ≤ 2048 := by omega
                have HM3 : Hid (many ≤ 64) := hidep hm
                go_wp2_with (first
                  | (at_builtin; refine wpList_append_rd _ rfl (.tmp 110) (.tmp 114) rfl slPair (w0.heap.size + 5) (.slice al ls.length cl) _ _ rfl hlist2 _ _ _ _ rfl hfr (by intro u hu; simp at hu; rcases hu with rfl | rfl <;> rfl) (by unfold maxLen; omega) (by omega) (by simp; omega) ?_; intro v2 w2 hown2 hgr2 hat hnl; clear hat hnl; have hB2 := HB3.out w2 hgr2; have hB4 := HB4.out w2 hgr2; unfold visitV at hB4; have hC2 := cell_of_one hB2; have hF2 := free_of_one hB2; have hI2 := hidep (HIN.out w2 v2 hgr2 hown2); obtain ⟨a2, cc, rfl, hcc, hcc2⟩ := (Rd.of_own hown2).form; clear hB2 hgr2 hown2)
                  | (go_at_call 79; refine (HIH.out _ L hless2.out hI2.out).mono ?_; rintro e w4 ⟨rfl, hI4⟩; generalize hLL : L ++ List.map (fun p => E ((x, y) :: p)) (List.take (many - L.length) (enumP a b f (x + 1) (y + 1))) = LL at hI4; obtain ⟨g4, k4, hv4, hl4, hk4, hk5⟩ := HL4.out w4 LL hI4; have c4 := cell_of_one hv4; have f4 := free_of_one hv4; obtain ⟨vo4, hvo4, hoo4⟩ := hI4.out; have c5 := cell_of_one hvo4; have c6 := cell_of_one hI4.most; obtain ⟨ao4, co4, rfl, hco4, hco5⟩ := hoo4.form; have HLL := hidep hLL; clear hLL; have HI4 := hidep hI4; clear hI4)
                  | fail)
                all_goals
                  have hI6 := HI4.out.listTo (w1 := w4) (w2 := w4) (v2 := .slice (some ⟨g4, 0, none⟩) ls.length k4) (l2 := ls) rfl (Below.refl _ _) ⟨rfl, rfl, rfl, Nat.le_refl _, fun _ _ _ => rfl⟩ hv4 (by rw [pairsC_append, List.length_append]; exact hl4) (ownsRow_pop (pairsC_len ls) hl4)
                  have hLB : LL = L ++ ((blkP a b f i k x y).take (many - L.length)).map E := by
                    rw [← HLL.out, HBY.out HXY.out HM.out, ← List.map_take, List.map_map]
                    rfl
                  have hLlen : L.length = outs.length + (rowsP a b f i k n ++ rowP a b f i k x m).length := by rw [HL.out, List.length_append, List.length_map]
                  have hLL2 : LL.length = L.length + ((blkP a b f i k x y).take (many - L.length)).length := by rw [hLB, List.length_append, List.length_map]
                · rename_i hmany
                  have hLE : RES = LL := by
                    obtain ⟨R, hR⟩ := rowsP_split (a := a) (b := b) (f := f) (i := i) (k := k) (n := n) (m := m) (by have := HX.out; omega) (by have := HY.out; omega)
                    rw [← HX.out, ← HY.out] at hR
                    have hl := hless2.out
                    have hdd : many - outs.length - (rowsP a b f i k n ++ rowP a b f i k x m).length = many - L.length := by omega
                    rw [HRES.out, HE.out, hR, take_join (by omega) (by rw [hdd]; omega), hdd, hLB, List.map_append, ← List.append_assoc, ← HL.out]
                  rw [Exit.noGoto_normal]
                  refine bodyPost_end (results_none rfl _ _ _) rfl ?_
                  rw [hLE]
                  exact ⟨rfl, hI6⟩
                · rename_i hmany
                  have hLE : LL = outs ++ (rowsP a b f i k n ++ rowP a b f i k x (m + 1)).map E := by
                    rw [List.length_take] at hLL2
                    rw [hLB, List.take_of_length_le (by omega), HL.out, HNX.out, List.append_assoc, ← List.map_append]
                  go_roundg (b.length - k - (m + 1))
                  case measure => have := HG2.out; have := HY.out; omega
                  case rel => exact ⟨m + 1, by have := HY.out; omega, rfl, by have := HY.out; go_num, by rw [← hLE]; exact hI6, hidep (by rw [← hLE]; omega)⟩
              · have hM2 : ((1 + (M1 : Int)) != (M0 : Int)) = true := by simp; omega
                have HB := hidep (HBN.out (.inr hM))
                clear hM
                have hwr1 : IntKind.i64.wrap ((x : Int) + 1) = (x : Int) + 1 := IntWalk.i64_in _ (by omega)
                have hwr2 : IntKind.i64.wrap ((y : Int) + 1) = (y : Int) + 1 := IntWalk.i64_in _ (by omega)
                have hwr3 : IntKind.i16.wrap (1 + (M1 : Int)) = 1 + (M1 : Int) := IntWalk.i16_in _ (by omega)
                go_quiet (fail)
                clear hwr1 hwr2 hwr3
                go_wp2
                go_roundg (b.length - k - (m + 1))
                case measure => have := HG2.out; have := HY.out; omega
                case rel => exact ⟨m + 1, by have := HY.out; omega, rfl, by have := HY.out; go_num, by rw [HNX.out, HB.out, List.append_nil, ← HL.out]; exact hIm.drewN _, by rw [HNX.out, HB.out, List.append_nil, ← HL.out]; exact hless2⟩
            · have hE : ∀ W, (binOp .neq 34 (.agg #[.int .i64 x1, .int .u8 x2]) (.agg #[.int .i64 y1, .int .u8 y2])).run Try.prog W = .ok (.bool true) W := fun W => by
                rw [run_neq_sym]
                have : ((x1 == y1) && (x2 == y2)) = false := by
                  rw [Bool.and_eq_false_iff]
                  by_cases e1 : x1 = y1
                  · right
                    simpa using fun e2 => hxy (by rw [e1, e2])
                  · left
                    simpa using e1
                rw [this]
                rfl
              have HB := hidep (HBN.out (.inl hxy))
              clear hxy
              go_quiet (fail)
              go_wp2
              go_roundg (b.length - k - (m + 1))
              case measure => have := HG2.out; have := HY.out; omega
              case rel => exact ⟨m + 1, by have := HY.out; omega, rfl, by have := HY.out; go_num, by rw [HNX.out, HB.out, List.append_nil, ← HL.out]; exact hIm.drewN _, by rw [HNX.out, HB.out, List.append_nil, ← HL.out]; exact hless2⟩
          · have hstop : b.length ≤ y ∨ (y < b.length ∧ lcsM a b x y ≠ lcsM a b i k) := by omega
            have HF : Hid (rowsP a b f i k n ++ rowP a b f i k x m = rowsP a b f i k (n + 1)) := hidep (by
              rw [rowsP_succ, ← HX.out]
              congr 1
              rcases hstop with h | ⟨h, h2⟩
              · have : m = b.length - k := by have := HY.out; omega
                rw [this]
              · have hy := HY.out
                refine (rowP_stop hxl hm2 hk ?_).symm
                have := lcsM_mono2 a b hxi hyk
                rw [← hy]
                omega)
            rcases hstop with hstop | ⟨hyl, hdif⟩
            · go_wp2
              all_goals
                go_roundg (a.length - i - (n + 1))
                case measure => have := HG.out; have := HX.out; omega
                case rel => exact ⟨n + 1, by have := HX.out; omega, rfl, by have := HX.out; go_num, by rw [← HF.out]; exact hIm, by rw [← HF.out]; exact hless2⟩
            · have hr1 := HR.out _ _ _ x y hIm (by omega) (by omega)
              have hdif2 : ((lcsM a b x y : Int) == (lcsM a b i k : Int)) = false := by
                rw [beq_eq_false_iff_ne]; intro e; exact hdif (Int.ofNat.inj e)
              have hI9 : (y : Int) < (b.length : Int) := by omega
              have hI10 : (y : Int) < (b.length : Int) + 1 := by omega
              clear hdif
              generalize lcsM a b x y = M1 at *
              go_wp2
              all_goals
                go_roundg (a.length - i - (n + 1))
                case measure => have := HG.out; have := HX.out; omega
                case rel => exact ⟨n + 1, by have := HX.out; omega, rfl, by have := HX.out; go_num, by rw [← HF.out]; exact hIm, by rw [← HF.out]; exact hless2⟩
      · have hstop : a.length ≤ x ∨ (x < a.length ∧ lcsM a b x k ≠ lcsM a b i k) := by omega
        have HF : Hid (RES = outs ++ (rowsP a b f i k n).map E) := hidep (by
          have : rowsP a b f i k (a.length - i) = rowsP a b f i k n := by
            have hx := HX.out
            rcases hstop with h | ⟨h, h2⟩
            · rw [show a.length - i = n from by omega]
            · refine rowsP_stop hn hi hk ?_
              have := lcsM_mono2 a b hxi (Nat.le_refl k)
              rw [← hx]
              omega
          rw [HRES.out, HE.out, this, List.take_of_length_le]
          have := hless.out
          simp at this
          omega)
        rcases hstop with hstop | ⟨hxl, hdif⟩
        · go_wp2
          all_goals
            rw [Exit.noGoto_normal]
            refine bodyPost_end (results_none rfl _ _ _) rfl ?_
            rw [HF.out]
            exact ⟨rfl, hIr⟩
        · have ho1 := HO.out _ _ _ x hIr (by omega)
          have hr1 := HR.out _ _ _ x k hIr (by omega) hk
          have hdif2 : ((lcsM a b x k : Int) == (lcsM a b i k : Int)) = false := by
            rw [beq_eq_false_iff_ne]; intro e; exact hdif (Int.ofNat.inj e)
          have hI6 : (x : Int) < (a.length : Int) := by omega
          have hI7 : (x : Int) < (a.length : Int) + 1 := by omega
          clear hdif
          generalize lcsM a b x k = M1 at *
          go_wp2
          all_goals
            rw [Exit.noGoto_normal]
            refine bodyPost_end (results_none rfl _ _ _) rfl ?_
            rw [HF.out]
            exact ⟨rfl, hIr⟩
end Go.Proofs.Ythdafajhohdkoaa
