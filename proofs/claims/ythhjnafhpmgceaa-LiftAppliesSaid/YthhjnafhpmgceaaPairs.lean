/- Contract: the reference's Pairs: the first least alignments, by induction on the places that are left. -/
import Derived.Test.YthhjnafhpmgceaaEnum
import Derived.Test.YthhjnafhpmgceaaTable
namespace Go.Proofs.Ythhjnafhpmgceaa
open Go.RowKit Go.Lab
/-- A slice of lists of pairs that the call owns. -/
def OwnPs (w : World) (base : Nat) (v : Value) (l : List (List (Nat × Nat))) : Prop :=
  ∃ us : List Value, us.length = l.length ∧ w.ownsRow base 67 1 v l.length us ∧ ∀ i (h : i < l.length) (h' : i < us.length), PairsAt w us[i] l[i]
theorem OwnPs.nil (w : World) (base : Nat) : OwnPs w base (.slice none 0 0) [] := ⟨[], rfl, World.ownsRow_nil _ _ _ _, fun _ h => by simp at h⟩
theorem OwnPs.rd {w : World} {base : Nat} {v : Value} {l : List (List (Nat × Nat))} (h : OwnPs w base v l) : PairssAt w v l := by
  obtain ⟨us, hl, ho, hs⟩ := h
  exact ⟨us, hl, Rd.of_own ho, hs⟩
theorem OwnPs.form {w : World} {base : Nat} {v : Value} {l : List (List (Nat × Nat))} (h : OwnPs w base v l) : ∃ a cap, v = .slice a l.length cap ∧ l.length ≤ cap ∧ cap ≤ maxLen := h.rd.form
theorem OwnPs.below {w w' : World} {base : Nat} {v : Value} {l : List (List (Nat × Nat))} (h : OwnPs w base v l) (hb : Below w.heap.size w w') : OwnPs w' base v l := by
  obtain ⟨us, hl, ho, hs⟩ := h
  refine ⟨us, hl, ⟨ho.1, ?_⟩, fun i a b => (hs i a b).below hb⟩
  rcases ho.2 with h2 | ⟨g, cap, cur, hv, hg, hh, r⟩
  · exact .inl h2
  · exact .inr ⟨g, cap, cur, hv, hg, (hb.block g (lt_of_block hh)).trans hh, r⟩
theorem OwnPs.kept {w w' : World} {base : Nat} {v : Value} {l : List (List (Nat × Nat))} (h : OwnPs w base v l) (hk : Keeps (fun t => t ≠ 67) w w') (hb : ∀ g, v.ownBlock = some g → w'.heap[g]? = w.heap[g]?) : OwnPs w' base v l := by
  obtain ⟨us, hl, ho, hs⟩ := h
  refine ⟨us, hl, ⟨ho.1, ?_⟩, fun i a b => (hs i a b).keeps hk (by decide)⟩
  rcases ho.2 with h2 | ⟨g, cap, cur, hv, hg, hh, r⟩
  · exact .inl h2
  · exact .inr ⟨g, cap, cur, hv, hg, (hb g (by rw [hv]; rfl)).trans hh, r⟩
theorem OwnPs.lt {w : World} {base : Nat} {v : Value} {l : List (List (Nat × Nat))} (h : OwnPs w base v l) : ∀ g, v.ownBlock = some g → base ≤ g ∧ g < w.heap.size := by
  obtain ⟨us, hl, ho, hs⟩ := h
  exact ho.lt
/-- One more list behind, where the row has grown by its slice value. -/
theorem OwnPs.snoc {w w' : World} {base : Nat} {v v' : Value} {l : List (List (Nat × Nat))} {u : Value} {p : List (Nat × Nat)} {us : List Value}
    (hl : us.length = l.length) (ho : w.ownsRow base 67 1 v l.length us) (hs : ∀ i (h : i < l.length) (h' : i < us.length), PairsAt w us[i] l[i]) (hu : PairsAt w u p)
    (ho' : w'.ownsRow base 67 1 v' (l.length + 1) (us ++ [u])) (hg : w.grownBy w' v.ownBlock) : OwnPs w' base v' (l ++ [p]) := by
  have hk : Keeps (fun t => t ≠ 67) w w' := Keeps.grown ho hg (fun t ht => ht)
  refine ⟨us ++ [u], by simp [hl], by simpa using ho', fun i h h' => ?_⟩
  by_cases hi : i < l.length
  · rw [List.getElem_append_left (by omega), List.getElem_append_left hi]
    exact (hs i hi (by omega)).keeps hk (by decide)
  · have : i = l.length := by simp at h; omega
    subst this
    rw [List.getElem_append_right (by omega), List.getElem_append_right (by omega)]
    simp only [hl, Nat.sub_self, List.getElem_cons_zero]
    exact hu.keeps hk (by decide)
set_option maxHeartbeats 1000000 in
set_option maxRecDepth 100000 in
theorem pairs_none (a b : List Sym) (i k mo : Nat) (va vb vt : Value) (w : World) (hi : i ≤ a.length) (hk : k ≤ b.length) (hm1 : 1 ≤ mo) (h0 : lcsM a b i k = 0) (f : Nat) (hT : TableAt w vt a b) :
    Calls Try.prog 33 #[va, vb, vt, .int .i64 i, .int .i64 k, .int .i64 mo] w fun e w' => ∃ v, e = .returned v ∧ OwnPs w' w.heap.size v ((enumP a b f i k).take mo) ∧ Below w.heap.size w w' := by
  obtain ⟨ob, rb, rfl, hO, hR⟩ := hT
  have ho1 := hO.cell (i := i) (by omega)
  have hr1 := (hR i hi).cell (i := k) (by omega)
  rw [h0] at hr1
  have hI1 : (0 : Int) ≤ (i : Int) := by omega
  have hI2 : (i : Int) < (a.length : Int) + 1 := by omega
  have hI3 : (0 : Int) ≤ (k : Int) := by omega
  have hI4 : (k : Int) < (b.length : Int) + 1 := by omega
  have HZ : Hid ((enumP a b f i k).take mo = [[]]) := hidep (by rw [enumP_zero h0]; exact List.take_of_length_le (by simpa using hm1))
  clear h0 hO hR
  go_enter Try.func33, Try.ntmps33
  go_wp2
  go_ret
  rw [HZ.out]
  refine ⟨_, rfl, ⟨[.slice none 0 0], rfl, World.ownsRow_lit w #[.slice none 0 0] 1 (Nat.le_refl _) (by decide) rfl, fun i h h' => ?_⟩, (Below.refl _ _).alloc (Nat.le_refl _) _⟩
  match i, h with
  | 0, _ => exact Rd.nil _ _ _
set_option maxHeartbeats 4000000 in
set_option maxRecDepth 100000 in
theorem pairs_any (a b : List Sym) (hla : a.length ≤ 2048) (hlb : b.length ≤ 2048) : ∀ (f i k mo : Nat) (va vb vt : Value) (w : World), a.length - i ≤ f → i ≤ a.length → k ≤ b.length → 1 ≤ mo → mo ≤ 64 →
    SymsAt w va a → SymsAt w vb b → TableAt w vt a b →
    Calls Try.prog 33 #[va, vb, vt, .int .i64 i, .int .i64 k, .int .i64 mo] w fun e w' => ∃ v, e = .returned v ∧ OwnPs w' w.heap.size v ((enumP a b f i k).take mo) ∧ Below w.heap.size w w' := by
  intro f
  induction f with
  | zero =>
    intro i k mo va vb vt w hf hi hk hm1 hm2 ha hb hT
    exact pairs_none a b i k mo va vb vt w hi hk hm1 (lcsM_end_i (by omega)) 0 hT
  | succ f ih =>
    intro i k mo va vb vt w hf hi hk hm1 hm2 ha hb hT
    by_cases h0 : lcsM a b i k = 0
    · exact pairs_none a b i k mo va vb vt w hi hk hm1 h0 _ hT
    obtain ⟨aa, ca, rfl, h1, h2⟩ := ha.form
    obtain ⟨ab, cb, rfl, h3, h4⟩ := hb.form
    unfold maxLen at h2 h4
    have HTA := hidep hT
    obtain ⟨ob, rb, hve, hO, hR⟩ := hT
    subst hve
    have hOlt := hO.lt
    have ho1 := hO.cell (i := i) (by omega)
    have hr1 := (hR i hi).cell (i := k) (by omega)
    have hI1 : (0 : Int) ≤ (i : Int) := by omega
    have hI2 : (i : Int) < (a.length : Int) + 1 := by omega
    have hI3 : (0 : Int) ≤ (k : Int) := by omega
    have hI4 : (k : Int) < (b.length : Int) + 1 := by omega
    · have HE := hidep (enumP_succ (f := f) h0)
      have hne : ((lcsM a b i k : Int) == 0) = false := by simpa using h0
      have hrlt := (hR i hi).lt
      have HR := hidep hR
      have HO := hidep hO
      clear hR hO
      go_enter Try.func33, Try.ntmps33
      go_wp2
      go_loopg [13, 14] (a.length - i) (fun g o x wr => ∃ n : Nat, n ≤ a.length - i ∧ a.length - i - n = g ∧ x = .int .i64 ((i + n : Nat) : Int) ∧
        OwnPs wr w.heap.size o ((rowsP a b f i k n).take mo) ∧ Below w.heap.size w wr)
      case atStart => exact ⟨0, by omega, by omega, rfl, by rw [rowsP_zero, List.take_nil]; exact OwnPs.nil _ _, Below.refl _ _⟩
      case round =>
        obtain ⟨n, hn, hg, rfl, hown, hbw⟩ := hrel
        have HG := hidep hg
        clear hg
        by_cases hlt : n < a.length - i
        · obtain ⟨x, hx⟩ : ∃ x : Nat, x = i + n := ⟨_, rfl⟩
          rw [← hx]
          have HX := hidep hx
          have hxl : x < a.length := by omega
          clear hx hlt
          obtain ⟨ao, co, rfl, hco, hco2⟩ := hown.form
          obtain ⟨wo, rfl⟩ : ∃ wo : World, wo = wr := ⟨_, rfl⟩
          go_wp2
          go_loopg [13, 15] (b.length - k) (fun g o y wl => ∃ m : Nat, m ≤ b.length - k ∧ b.length - k - m = g ∧ y = .int .i64 ((k + m : Nat) : Int) ∧
            OwnPs wl w.heap.size o ((rowsP a b f i k n ++ rowP a b f i k x m).take mo) ∧ Below w.heap.size w wl)
          case atStart => exact ⟨0, by omega, by omega, rfl, by rw [rowP_zero, List.append_nil]; exact hown, hbw⟩
          case round =>
            obtain ⟨m, hm, hg2, rfl, hown2, hbw2⟩ := hrel
            have HG2 := hidep hg2
            clear hg2 hown
            obtain ⟨y, hy⟩ : ∃ y : Nat, y = k + m := ⟨_, rfl⟩
            rw [← hy]
            have HY := hidep hy
            clear hy
            obtain ⟨ao2, co2, rfl, hco3, hco4⟩ := hown2.form
            unfold maxLen at hco4
            by_cases hin : y < b.length ∧ ((rowsP a b f i k n ++ rowP a b f i k x m).take mo).length < mo
            · obtain ⟨hyl, hlm⟩ := hin
              have hLe : (rowsP a b f i k n ++ rowP a b f i k x m).take mo = rowsP a b f i k n ++ rowP a b f i k x m := List.take_of_length_le (by rw [List.length_take] at hlm; omega)
              obtain ⟨L, hL⟩ : ∃ L, L = rowsP a b f i k n ++ rowP a b f i k x m := ⟨_, rfl⟩
              rw [hLe, ← hL] at hlm hco3 hown2
              rw [hLe, ← hL]
              have HL := hidep hL
              clear hL hLe
              have hyk : k ≤ y := by have := HY.out; omega
              have hxi : i ≤ x := by have := HX.out; omega
              obtain ⟨ba, oa, rfl, hba, hca1, hca2⟩ := ha.at (k := x) hxl
              obtain ⟨bb, obb, rfl, hbb, hcb1, hcb2⟩ := hb.at (k := y) hyl
              have HWA : Hid (∀ W, Below w.heap.size w W → SymsAt W (.slice (some ⟨ba, oa, none⟩) a.length ca) a ∧ SymsAt W (.slice (some ⟨bb, obb, none⟩) b.length cb) b ∧ TableAt W (.slice (some ⟨ob, 0, none⟩) (a.length + 1) (a.length + 1)) a b) := hidep (fun W hW => ⟨ha.below hW, hb.below hW, HTA.out.below hW⟩)
              have hca1 := (hbw2.cell (p := ⟨ba, oa + x * 2, none⟩) hba).trans hca1
              have hca2 := (hbw2.cell (p := ⟨ba, oa + x * 2 + 1, none⟩) hba).trans hca2
              have hcb1 := (hbw2.cell (p := ⟨bb, obb + y * 2, none⟩) hbb).trans hcb1
              have hcb2 := (hbw2.cell (p := ⟨bb, obb + y * 2 + 1, none⟩) hbb).trans hcb2
              have ho1 := (hbw2.cell (p := ⟨ob, i, none⟩) hOlt).trans (HO.out.cell (i := i) (by omega))
              have ho2 := (hbw2.cell (p := ⟨ob, x + 1, none⟩) hOlt).trans (HO.out.cell (i := x + 1) (by omega))
              have hr1 := (hbw2.cell (p := ⟨rb i, k, none⟩) hrlt).trans ((HR.out i hi).cell (i := k) (by omega))
              have hr2 := (hbw2.cell (p := ⟨rb (x + 1), y + 1, none⟩) (HR.out (x + 1) (by omega)).lt).trans ((HR.out (x + 1) (by omega)).cell (i := y + 1) (by omega))
              have hml := (lcsM_le a b (x + 1) (y + 1)).1
              have hM1 : (lcsM a b (x + 1) (y + 1) : Int) ≤ 2048 := by omega
              have hI5 : (0 : Int) ≤ (x : Int) := by omega
              have hI6 : (x : Int) < (a.length : Int) := by omega
              have hI7 : (0 : Int) ≤ (y : Int) := by omega
              have hI8 : (y : Int) < (b.length : Int) := by omega
              have hI9 : (0 : Int) ≤ (x : Int) + 1 := by omega
              have hI10 : (x : Int) + 1 < (a.length : Int) + 1 := by omega
              have hI11 : (0 : Int) ≤ (y : Int) + 1 := by omega
              have hI12 : (y : Int) + 1 < (b.length : Int) + 1 := by omega
              have hlm2 : (L.length : Int) < (mo : Int) := by omega
              have HBY := hidep (fun h h2 => blkP_yes (f := f) (i := i) (k := k) hxl hyl h h2)
              have HBN := hidep (fun h => blkP_no (f := f) (i := i) (k := k) hxl hyl h)
              have HNX : Hid ((rowsP a b f i k n ++ rowP a b f i k x (m + 1)) = L ++ blkP a b f i k x y) := hidep (by rw [rowP_succ, ← List.append_assoc, ← HL.out, ← HY.out])
              clear ha hb hml
              generalize hX0 : a[x] = X at *
              generalize hY0 : b[y] = Y at *
              clear hX0 hY0
              obtain ⟨x1, x2⟩ := X
              obtain ⟨y1, y2⟩ := Y
              simp only at hca1 hca2 hcb1 hcb2
              generalize lcsM a b (x + 1) (y + 1) = M1 at *
              generalize lcsM a b i k = M0 at *
              have hG := run_guard_sym
              go_upto_region 10 with (fail)
              by_cases hxy : (⟨x1, x2⟩ : Sym) = ⟨y1, y2⟩
              · have hE : ∀ W, (binOp .neq 30 (.agg #[.int .i64 x1, .int .u8 x2]) (.agg #[.int .i64 y1, .int .u8 y2])).run Try.prog W = .ok (.bool false) W := fun W => by
                  rw [run_neq_sym]
                  injection hxy with e1 e2
                  subst e1 e2
                  simp
                have HXY := hidep hxy
                clear hxy
                by_cases hM : 1 + M1 = M0
                · have hM2 : ((1 + (M1 : Int)) != (M0 : Int)) = false := by simp; omega
                  have HM := hidep hM
                  clear hM
                  have hwr1 : IntKind.i64.wrap ((x : Int) + 1) = (x : Int) + 1 := IntWalk.i64_in _ (by omega)
                  have hwr2 : IntKind.i64.wrap ((y : Int) + 1) = (y : Int) + 1 := IntWalk.i64_in _ (by omega)
                  have hwr3 : IntKind.i64.wrap (1 + (M1 : Int)) = 1 + (M1 : Int) := IntWalk.i64_in _ (by omega)
                  go_quiet (fail)
                  clear hwr1 hwr2 hwr3
                  obtain ⟨RL, hRL⟩ : ∃ RL, RL = (enumP a b f (x + 1) (y + 1)).take (mo - L.length) := ⟨_, rfl⟩
                  have HIH : Hid (∀ W, Below w.heap.size w W → Calls Try.prog 33 #[.slice (some ⟨ba, oa, none⟩) a.length ca, .slice (some ⟨bb, obb, none⟩) b.length cb, .slice (some ⟨ob, 0, none⟩) (a.length + 1) (a.length + 1), .int .i64 ((x : Int) + 1), .int .i64 ((y : Int) + 1), .int .i64 ((mo : Int) - (L.length : Int))] W
                      fun e w' => ∃ v, e = .returned v ∧ OwnPs w' W.heap.size v RL ∧ Below W.heap.size W w') := hidep (fun W hW => by
                    have h := ih (x + 1) (y + 1) (mo - L.length) _ _ _ W (by omega) (by omega) (by omega) (by omega) (by omega) (HWA.out W hW).1 (HWA.out W hW).2.1 (HWA.out W hW).2.2
                    rw [show ((mo - L.length : Nat) : Int) = (mo : Int) - (L.length : Int) from by omega, show ((x + 1 : Nat) : Int) = (x : Int) + 1 from by omega, show ((y + 1 : Nat) : Int) = (y : Int) + 1 from by omega, ← hRL] at h
                    exact h)
                  have hRLl : RL.length ≤ mo - L.length := by rw [hRL]; exact List.length_take_le _ _
                  have HRM : Hid (∀ p ∈ RL, p.length ≤ a.length - (x + 1)) := hidep (fun p hp => enumP_len f _ _ p (by rw [hRL] at hp; exact List.mem_of_mem_take hp))
                  have HFIN : Hid ((L ++ blkP a b f i k x y).take mo = L ++ RL.map ((x, y) :: ·)) := hidep (by rw [take_more (by omega), HBY.out HXY.out HM.out, ← List.map_take, ← hRL])
                  clear hRL ih HWA hca1 hca2 hcb1 hcb2 ho1 ho2 hr1 hr2
                  go_wp2_with fail
                  refine (HIH.out _ (below_drewN hbw2 _)).mono ?_
                  rintro e w3 ⟨vr, rfl, hrest, hb3⟩
                  have hown3 : OwnPs w3 w.heap.size (.slice ao2 L.length co2) L := hown2.below ((Below.refl _ _).trans ⟨hb3.os, hb3.tape, hb3.output, hb3.size, hb3.block⟩)
                  have hbw3 : Below w.heap.size w w3 := hbw2.trans ⟨hb3.os, hb3.tape, hb3.output, hb3.size, fun i hi => hb3.block i (Nat.lt_of_lt_of_le hi hbw2.size)⟩
                  have hnb : ∀ g, (Value.slice ao2 L.length co2).ownBlock = some g → vr.ownBlock ≠ some g := fun g hg e => by
                    have h1 := (hown2.lt g hg).2
                    have h2 : wr.heap.size ≤ g := (hrest.lt g e).1
                    omega
                  obtain ⟨ar, cr, rfl, hcr, hcr2⟩ := hrest.form
                  unfold maxLen at hcr2
                  obtain ⟨WB, hrest⟩ : ∃ WB, OwnPs w3 WB (.slice ar RL.length cr) RL := ⟨_, hrest⟩
                  clear hown2 hbw2 hb3
                  go_wp2
                  go_loopg [13, 17] RL.length (fun g o jv wl => ∃ j : Nat, j ≤ RL.length ∧ RL.length - j = g ∧ jv = .int .i64 j ∧ OwnPs wl w.heap.size o (L ++ (RL.take j).map ((x, y) :: ·)) ∧
                    OwnPs wl WB (.slice ar RL.length cr) RL ∧ Hid (∀ g, o.ownBlock = some g → (Value.slice ar RL.length cr).ownBlock ≠ some g) ∧ Below w.heap.size w wl)
                  case atStart => exact ⟨0, by omega, rfl, rfl, by simpa using hown3, hrest, hidep hnb, hbw3⟩
                  case round =>
                    obtain ⟨j, hj, hg3, rfl, hownj, hrj, hnj, hbj⟩ := hrel
                    have HG3 := hidep hg3
                    clear hg3 hown3 hrest hnb hbw3
                    by_cases hjl : j < RL.length
                    · obtain ⟨us, hul, huo, hus⟩ := hownj
                      obtain ⟨rus, hrl, hro, hrs⟩ := hrj
                      obtain ⟨br, ofr, rfl, hbr, hcr3⟩ := (Rd.of_own hro).at (by omega)
                      have hcr4 := hcr3 j _ (List.getElem?_eq_getElem (l := rus) (by omega))
                      have hpr := hrs j hjl (by omega)
                      have hpl : RL[j].length ≤ 2048 := by have := HRM.out _ (List.getElem_mem hjl); omega
                      have HTK : Hid (L ++ (RL.take (j + 1)).map ((x, y) :: ·) = (L ++ (RL.take j).map ((x, y) :: ·)) ++ [(x, y) :: RL[j]]) := hidep (by
                        rw [List.take_succ_eq_append_getElem hjl, List.map_append, List.append_assoc]; rfl)
                      have HOW : Hid (OwnPs wr w.heap.size _ (L ++ (RL.take j).map ((x, y) :: ·))) := hidep ⟨us, hul, huo, hus⟩
                      have HRO : Hid (OwnPs wr WB (.slice (some ⟨br, ofr, none⟩) RL.length cr) RL) := hidep ⟨rus, hrl, hro, hrs⟩
                      obtain ⟨ao5, co5, rfl, hco5, hco6⟩ := (Rd.of_own huo).form
                      unfold maxLen at hco6
                      have hrlt := hRLl
                      have hq1 : (L ++ (RL.take j).map ((x, y) :: ·)).length + 1 ≤ 64 := by simp; omega
                      clear hcr3 hus hrs
                      generalize RL[j] = P at *
                      generalize rus[j] = RU at *
                      clear hul hrl hro huo
                      generalize L ++ (RL.take j).map ((x, y) :: ·) = LJ at *
                      have hXa : Below wr.heap.size wr (wr.alloc (.cells #[.int .i64 x, .int .i64 y] 76)) := (Below.refl _ _).alloc (Nat.le_refl _) _
                      have hpr2 := hpr.below hXa
                      have hone := pairsC_one P
                      have hbs := hbj.size
                      go_wp2_with (first
                        | (at_builtin; refine wpList_append_rd _ rfl (.tmp 100) (.tmp 104) rfl slPair wr.heap.size (.slice (some ⟨wr.heap.size, 0, none⟩) 1 1) 1 [.int .i64 x, .int .i64 y] rfl (World.ownsRow_lit wr #[.int .i64 x, .int .i64 y] 1 (Nat.le_refl _) (by decide) rfl) _ _ _ _ rfl hpr2 hone (by unfold maxLen; omega) (by omega) (by simp) ?_; intro v1 w1 hown1 hgr1 hat hnl; clear hat hnl; obtain ⟨a1, c1, rfl, hc1, hc2⟩ := (Rd.of_own hown1).form; have hb1 : Below wr.heap.size wr w1 := hXa.grown hgr1 (by simp) (fun g hg => by simp [Value.ownBlock] at hg; omega); clear hgr1)
                        | (at_builtin; obtain ⟨us2, hul2, huo2, hus2⟩ := HOW.out.below (hb1.alloc hb1.size (.cells #[.slice a1 (1 + P.length) c1] 67)); have hfr := Rd.fresh w1 #[.slice a1 (1 + P.length) c1] 67 1 1 rfl (by decide); refine wpList_append_rd _ rfl (.tmp 99) (.tmp 106) rfl slPairs w.heap.size (.slice ao5 LJ.length co5) _ _ rfl huo2 _ _ _ _ rfl hfr (by intro u hu; simp at hu; subst hu; rfl) (by unfold maxLen; omega) (by omega) (by have := hb1.size; simp; omega) ?_; intro v2 w2 hown2 hgr2 hat hnl; clear hnl hfr))
                      have hPA : PairsAt w1 (.slice a1 (1 + P.length) c1) ((x, y) :: P) := by
                        unfold PairsAt
                        rw [show ((x, y) :: P).length = 1 + P.length from by rw [List.length_cons, Nat.add_comm]]
                        exact Rd.of_own hown1
                      have hW2 := hb1.alloc hb1.size (.cells #[.slice a1 (1 + P.length) c1] 67)
                      have hsz2 := hb1.size
                      have hRO2 := HRO.out.below hW2
                      have hkp : Keeps (fun t => t ≠ 67) _ w2 := Keeps.grown huo2 hgr2 (fun t ht => ht)
                      have hsn := OwnPs.snoc hul2 huo2 hus2 (hPA.below ((Below.refl _ _).alloc (Nat.le_refl _) _)) hown2 hgr2
                      go_roundg (RL.length - (j + 1))
                      case measure => have := HG3.out; omega
                      case rel =>
                        refine ⟨j + 1, by omega, rfl, by go_num, by rw [HTK.out]; exact hsn, hRO2.kept hkp (fun g hg => ?_), hidep (fun g hg hg2 => ?_), (hbj.trans (hW2.mono hbs)).grown hgr2 (by simp; omega) (fun g hg => (huo2.lt g hg).1)⟩
                        · exact hgr2.block g (hRO2.lt g hg).2 (fun e => hnj.out g e.symm hg)
                        · rcases hat with hat | hat
                          · exact hnj.out g (hat.symm.trans hg) hg2
                          · rw [hat] at hg
                            injection hg with hg
                            have := (HRO.out.lt g hg2).2
                            simp at hg
                            omega
                    · go_wp2
                      go_roundg (b.length - k - (m + 1))
                      case measure => have := HG2.out; have := HY.out; omega
                      case rel => exact ⟨m + 1, by have := HY.out; omega, rfl, by have := HY.out; go_num, by rw [HNX.out, HFIN.out]; rw [List.take_of_length_le (by omega)] at hownj; exact hownj, hbj⟩
                · have hM2 : ((1 + (M1 : Int)) != (M0 : Int)) = true := by simp; omega
                  have HB := hidep (HBN.out (.inr hM))
                  clear hM
                  have hwr1 : IntKind.i64.wrap ((x : Int) + 1) = (x : Int) + 1 := IntWalk.i64_in _ (by omega)
                  have hwr2 : IntKind.i64.wrap ((y : Int) + 1) = (y : Int) + 1 := IntWalk.i64_in _ (by omega)
                  have hwr3 : IntKind.i64.wrap (1 + (M1 : Int)) = 1 + (M1 : Int) := IntWalk.i64_in _ (by omega)
                  go_quiet (fail)
                  clear hwr1 hwr2 hwr3
                  go_wp2
                  go_roundg (b.length - k - (m + 1))
                  case measure => have := HG2.out; have := HY.out; omega
                  case rel => exact ⟨m + 1, by have := HY.out; omega, rfl, by have := HY.out; go_num, by rw [HNX.out, HB.out, List.append_nil, List.take_of_length_le (by omega)]; exact hown2.below (below_drewN (Below.refl _ _) _), below_drewN hbw2 _⟩
              · have hE : ∀ W, (binOp .neq 30 (.agg #[.int .i64 x1, .int .u8 x2]) (.agg #[.int .i64 y1, .int .u8 y2])).run Try.prog W = .ok (.bool true) W := fun W => by
                  rw [run_neq_sym]
                  have : ((x1 == y1) && (x2 == y2)) = false := by
                    rw [Bool.and_eq_false_iff]
                    by_cases e1 : x1 = y1
                    · right
                      simpa using fun e2 => hxy (by rw [e1, e2])
                    · left
                      simpa using e1
                  rw [this]
                  rfl
                have HB := hidep (HBN.out (.inl hxy))
                clear hxy
                go_quiet (fail)
                go_wp2
                go_roundg (b.length - k - (m + 1))
                case measure => have := HG2.out; have := HY.out; omega
                case rel => exact ⟨m + 1, by have := HY.out; omega, rfl, by have := HY.out; go_num, by rw [HNX.out, HB.out, List.append_nil, List.take_of_length_le (by omega)]; exact hown2.below (below_drewN (Below.refl _ _) _), below_drewN hbw2 _⟩
            · have hstop : (b.length : Int) ≤ y ∨ (mo : Int) ≤ (((rowsP a b f i k n ++ rowP a b f i k x m).take mo).length : Int) := by omega
              have HF : Hid ((rowsP a b f i k n ++ rowP a b f i k x m).take mo = (rowsP a b f i k (n + 1)).take mo) := hidep (by
                rw [rowsP_succ, ← HX.out]
                by_cases hyl : b.length ≤ y
                · have : m = b.length - k := by have := HY.out; omega
                  rw [this]
                · have hlm : mo ≤ (rowsP a b f i k n ++ rowP a b f i k x m).length := by
                    have := hstop.resolve_left (by omega)
                    rw [List.length_take] at this
                    omega
                  obtain ⟨d, hd⟩ : ∃ d, b.length - k = m + d := ⟨b.length - k - m, by omega⟩
                  have hsp : rowP a b f i k x (b.length - k) = rowP a b f i k x m ++ (List.range' (k + m) d).flatMap (blkP a b f i k x) := by
                    rw [hd]
                    unfold rowP
                    rw [← List.range'_append_1, List.flatMap_append]
                  rw [hsp, ← List.append_assoc, take_grow hlm])
              generalize (rowsP a b f i k n ++ rowP a b f i k x m).take mo = T at *
              rcases hstop with hstop | hstop
              all_goals
                go_wp2
                all_goals
                  go_roundg (a.length - i - (n + 1))
                  case measure => have := HG.out; have := HX.out; omega
                  case rel => exact ⟨n + 1, by have := HX.out; omega, rfl, by have := HX.out; go_num, by rw [← HF.out]; exact hown2, hbw2⟩
        · have hnn : n = a.length - i := by omega
          have HF : Hid ((rowsP a b f i k n).take mo = (enumP a b (f + 1) i k).take mo) := hidep (by rw [HE.out, hnn])
          clear hnn
          go_wp2
          go_ret
          rw [← HF.out]
          exact ⟨_, rfl, hown, hbw⟩
end Go.Proofs.Ythhjnafhpmgceaa
