/- Contract of the reference of package merge: Both, walked. -/
import Derived.Test.YthdafajhohdkoaaMgPa
import Derived.Test.YthdafajhohdkoaaMgPl
import Derived.Test.YthdafajhohdkoaaMgS
import Derived.Test.YthdafajhohdkoaaMgD
namespace Go.Proofs.Ythdafajhohdkoaa
open Go.RowKit Go.Lab
theorem own_apart {W W' : World} {b1 b2 : Nat} {e1 e2 : TypeId} {k1 k2 n1 n2 : Nat} {v1 v2 : Value} {x1 x2 : List Value} (h1 : W.ownsRow b1 e1 k1 v1 n1 x1) (h2 : W.ownsRow b2 e2 k2 v2 n2 x2) (hne : e1 ≠ e2) (hg : W.grownBy W' v1.ownBlock) : W'.ownsRow b2 e2 k2 v2 n2 x2 := by
  refine h2.kept hg ?_
  rcases h2.2 with ⟨rfl, _⟩ | ⟨g, cap, cur, rfl, _, hgb, _⟩
  · exact .inl rfl
  · refine .inr fun e => ?_
    rcases h1.2 with ⟨rfl, _⟩ | ⟨g1, cap1, cur1, rfl, _, hgb1, _⟩
    · simp [Value.ownBlock] at e
    · have : g = g1 := by simpa [Value.ownBlock] using e
      subst this
      rw [hgb] at hgb1
      cases hgb1
      exact hne rfl
theorem box3_set3 {w : World} {b : Nat} {x y z x' y' z' : Value} {t : TypeId} (h : w.heap[b]? = some (.cells #[x, y, z] t (0, 0))) : (((w.setCell ⟨b, 0, none⟩ x').setCell ⟨b, 1, none⟩ y').setCell ⟨b, 2, none⟩ z').heap[b]? = some (.cells #[x', y', z'] t (0, 0)) := by
  have h1 := heap_setCell_same w b 0 #[x, y, z] t x' h
  have h2 := heap_setCell_same _ b 1 _ t y' h1
  have h3 := heap_setCell_same _ b 2 _ t z' h2
  simpa using h3
theorem at34_form (v : Value) (l : List Edit) (p : Int) (w : World) (h : EditsAt w v l) :
    Calls Try.prog 51 #[v, .int .i64 p] w fun e w' => ∃ p1 d1 i1 a1 c1 sb, e = .returned (.tuple #[.agg #[.int .i64 p1, .int .i64 d1, .slice a1 (List.length i1) c1], .bool sb]) ∧ Hid ((findE l p).isSome = sb) ∧ Hid ((findE l p).getD zeroE = ⟨p1, d1, i1⟩) ∧ SymsAt w' (.slice a1 (List.length i1) c1) i1 ∧ Below w.heap.size w w' :=
  (at34_any v l p w h).mono fun e w' ⟨u, he, hu, hb⟩ => by
    generalize (findE l p).getD zeroE = x at *
    obtain ⟨p1, d1, i1⟩ := x
    obtain ⟨a1, c1, rfl, _, _⟩ := hu.form
    exact ⟨p1, d1, i1, a1, c1, _, he, hidep rfl, hidep rfl, hu, hb⟩
theorem getD_some {o : Option Edit} {x : Edit} (h : o.getD zeroE = x) (hs : o.isSome = true) : o = some x := by
  cases o with
  | none => cases hs
  | some y => exact congrArg some h
theorem edAt_here {a b : List Edit} {p : Int} {x : Edit} (h : (findE a p).getD zeroE = x) (hs : (findE a p).isSome = true) : edAt a b p = some x := by
  unfold edAt
  rw [if_pos hs]
  exact getD_some h hs
theorem edAt_there {a b : List Edit} {p : Int} (hs : (findE a p).isSome = false) : edAt a b p = findE b p := by
  unfold edAt
  rw [if_neg (by rw [hs]; decide)]
theorem insR_bd2 {o : Option Edit} {sk : Int} {kp : List (Nat × Nat)} {ou : List Sym} (ho : ∀ e, o = some e → 0 ≤ e.del ∧ e.del ≤ 2048 ∧ e.ins.length ≤ 64) (h1 : 0 ≤ sk) (h2 : sk ≤ 2048) : 0 ≤ (insR o ⟨sk, kp, ou⟩).skip ∧ (insR o ⟨sk, kp, ou⟩).skip ≤ 2048 ∧ kp = (insR o ⟨sk, kp, ou⟩).kept ∧ (insR o ⟨sk, kp, ou⟩).out.length ≤ ou.length + 64 := by
  cases o with
  | none => exact ⟨h1, h2, rfl, by simp [insR]⟩
  | some e =>
    obtain ⟨g1, g2, g3⟩ := ho e rfl
    exact ⟨g1, g2, rfl, by simp [insR]; omega⟩
def BothR (w : World) (base : List Sym) (a b : List Edit) (e : Ending) (w' : World) : Prop :=
  ∃ vo vk, e = .returned (.tuple #[vo, vk, .int .i64 (bothZ base a b).2.2]) ∧ SymsAt w' vo (bothZ base a b).1 ∧ PairsAt w' vk (bothZ base a b).2.1 ∧ Below w.heap.size w w'
set_option maxRecDepth 100000 in
set_option maxHeartbeats 4000000 in
theorem both34_run (v va vb : Value) (base : List Sym) (a b : List Edit) (w : World) (h : SymsAt w v base) (ha : EditsAt w va a) (hb : EditsAt w vb b)
    (ht : isTextB base = true) (hva : validZ base.length a = true) (hvb : validZ base.length b = true) : Calls Try.prog 28 #[v, va, vb] w (BothR w base a b) := by
  obtain ⟨ab, cb, rfl, hcb, hmb⟩ := h.form
  obtain ⟨aa, ca, rfl, _, _⟩ := ha.form
  obtain ⟨ae, ce, rfl, _, _⟩ := hb.form
  unfold maxLen at hmb
  have hl := isTextB_len0 ht
  have HT := hidep (text34_any _ base w h)
  have HA := hidep (fun W (hW : Below w.heap.size w W) => valid34_any _ base.length a W (ha.below hW) (by omega) (by omega))
  have HB := hidep (fun W (hW : Below w.heap.size w W) => valid34_any _ base.length b W (hb.below hW) (by omega) (by omega))
  have HC := hidep (fun W (hW : Below w.heap.size w W) => pairs34_any _ _ a b W (ha.below hW) (hb.below hW) (validZ_ok (n := base.length) (by omega) hva) (validZ_ok (n := base.length) (by omega) hvb) (clashP_len hva hvb))
  rw [ht] at HT
  rw [hva] at HA
  rw [hvb] at HB
  have HZ : Hid (bothZ base a b = if clashP a b ≠ [] then ([], [], 18) else if 2048 < (finR base a b).out.length then ([], [], 4) else ((finR base a b).out, (finR base a b).kept, 0)) := hidep (by unfold bothZ; rw [ht, hva, hvb, if_neg (by decide)])
  have HBD := hidep (placeR_bd hl hva hvb)
  have HED := hidep (edAt_bd hl hva hvb)
  have H0 := hidep h
  have HEA := hidep (fun W (hW : Below w.heap.size w W) p => at34_form _ a p W (ha.below hW))
  have HEB := hidep (fun W (hW : Below w.heap.size w W) p => at34_form _ b p W (hb.below hW))
  clear h ha hb ht hva hvb
  go_enter Try.func28, Try.ntmps28
  go_upto_region 3 with (first
    | (go_at_call 49; refine HT.out.mono ?_; rintro e w1 ⟨rfl, rfl⟩)
    | (go_at_call 24; (with_reducible refine (HA.out _ (Below.refl _ _)).mono ?_); clear HA; rintro e w2 ⟨rfl, hb2⟩)
    | (go_at_call 24; (with_reducible refine (HB.out _ hb2).mono ?_); rintro e w3 ⟨rfl, hb3⟩; have hb13 := hb2.trans (hb3.mono hb2.size); clear hb2 hb3)
    | fail)
  by_cases hcl : clashP a b = []
  · rw [if_neg (by simp [hcl])] at HZ
    rw [hcl] at HC
    go_upto_region 5 with (first
      | (go_at_call 50; (with_reducible refine (HC.out _ hb13).mono ?_); rintro e w4 ⟨vo, rfl, ho4, hb4⟩; obtain ⟨a4, c4, rfl, _, _⟩ := (Rd.of_own ho4).form; simp only [List.length_nil] at ho4 ⊢)
      | fail)
    have HW4 := hidep (hb13.trans (hb4.mono hb13.size))
    clear ho4 hb4 hb13 HT HB HC hcl
    obtain ⟨w0, hw0⟩ : ∃ w0 : World, w0 = w4 := ⟨_, rfl⟩
    subst hw0
    go_wp2
    go_loopg [9, 10, 11, 12] (base.length + 1) (fun g o kp sk i wr => ∃ k : Nat, k ≤ base.length ∧ base.length + 1 - k = g ∧ i = .int .i64 k ∧ sk = .int .i64 (placeR base a b k).skip ∧ wr.ownsRow w0.heap.size 34 2 o (placeR base a b k).out.length (symsC (placeR base a b k).out) ∧
      wr.ownsRow w0.heap.size 45 2 kp (placeR base a b k).kept.length (pairsC (placeR base a b k).kept) ∧ Below w0.heap.size w0 wr)
    case atStart => exact ⟨0, by omega, by omega, rfl, rfl, World.ownsRow_nil _ _ _ _, World.ownsRow_nil _ _ _ _, Below.refl _ _⟩
    case round =>
      obtain ⟨k, hk, hg, rfl, rfl, ho, hkp, hbw⟩ := hrel
      have HG := hidep hg
      have HS1 : Hid (placeR base a b (k + 1) = keepR base k (insR (edAt a b k) (placeR base a b k))) := hidep rfl
      have HF : Hid (k = base.length → finR base a b = insR (edAt a b k) (placeR base a b k)) := hidep (fun e => by subst e; rfl)
      obtain ⟨b1, b2, b3, b4⟩ := HBD.out k
      have HXD := hidep (HED.out k)
      have HIB := hidep (H0.out.below (HW4.out.trans (hbw.mono HW4.out.size)))
      clear hg
      generalize placeR base a b k = s at *
      obtain ⟨sk, kp, ou⟩ := s
      simp only at ho hkp b1 b2 b3 b4
      obtain ⟨wo, hwo⟩ : ∃ wo : World, wo = wr := ⟨_, rfl⟩
      subst hwo
      have hW0 := hidep (HW4.out.trans (hbw.mono HW4.out.size))
      have hkl : (k : Int) ≤ (base.length : Int) := by omega
      go_upto_if 50 with (first
        | (go_at_call 51; (with_reducible refine (HEA.out _ hW0.out _).mono ?_); rintro e w1 ⟨p1, d1, i1, a1, c1, sb1, rfl, HB1, HX1, hs1, hb1⟩)
        | fail)
      have HOb := hidep (edAt_there (a := a) (b := b) (p := (k : Int)))
      have HOa := hidep (fun x => edAt_here (a := a) (b := b) (p := (k : Int)) (x := x))
      go_cut [13, 14] (fun s13 s14 wc => ∃ (b13 : Nat) (p2 d2 : Int) (i2 : List Sym) (a2 : Option Addr) (c2 : Nat), s13 = .pointer (some ⟨b13, 0, none⟩) ∧ s14 = .bool (edAt a b k).isSome ∧ Hid ((edAt a b k).getD zeroE = ⟨p2, d2, i2⟩) ∧ wc.heap[b13]? = some (.cells #[.int .i64 p2, .int .i64 d2, .slice a2 i2.length c2] 36 (0, 0)) ∧ SymsAt wc (.slice a2 i2.length c2) i2 ∧ Below wo.heap.size wo wc)
      case first =>
        have HN1 := hidep (heap_alloc_new w1 (.cells #[.int .i64 p1, .int .i64 d1, .slice a1 i1.length c1] 36))
        have hA1 := hidep (show Below w1.heap.size w1 (w1.alloc (.cells #[.int .i64 p1, .int .i64 d1, .slice a1 i1.length c1] 36)) from (Below.refl _ _).alloc (Nat.le_refl _) _)
        cases sb1
        · have HOb' := hidep (HOb.out HB1.out)
          have HBC := hidep (fun W (hW : Below w1.heap.size w1 W) => HEB.out W (hW0.out.trans ((hb1.trans (hW.mono hb1.size)).mono hW0.out.size)) (k : Int))
          clear HOa HOb HEA HEB hs1
          generalize findE b (k : Int) = ob at *
          go_wp2_with (first
            | (go_at_call 51; (with_reducible refine (HBC.out _ hA1.out).mono ?_); rintro e w2 ⟨p2, d2, i2, a2, c2, sb2, rfl, HB2, HX2, hs2, hb2⟩; have h13 := (hb2.block _ (by simp)).trans HN1.out; obtain ⟨q0, q1, q2⟩ := box3_cell h13; have f0 := box_free0 (o := 0) h13; have f1 := box_free0 (o := 1) h13; have f2 := box_free0 (o := 2) h13; have HH := hidep h13; have hl13 := lt_of_block h13; clear h13)
            | fail)
          go_meet
          refine ⟨w1.heap.size, p2, d2, i2, a2, c2, rfl, by rw [HOb'.out, HB2.out], by rw [HOb'.out]; exact HX2, ?_, ?_, ?_⟩
          · exact box3_set3 HH.out
          · have hk3 : Keeps (fun t => t = 34) w2 (((w2.setCell ⟨w1.heap.size, 0, none⟩ (.int .i64 p2)).setCell ⟨w1.heap.size, 1, none⟩ (.int .i64 d2)).setCell ⟨w1.heap.size, 2, none⟩ (.slice a2 i2.length c2)) := by
              have hne : ∀ {b : Nat} {cur : Array Value} {fz : Nat × Nat}, w2.heap[b]? = some (.cells cur 34 fz) → b ≠ w1.heap.size := fun h e => by have h4 := HH.out; subst e; rw [h] at h4; simp at h4
              refine ⟨by simp [World.setCell], fun b cur t fz ht hb => ?_⟩
              subst ht
              rw [Below.heap_setCell _ _ _ _ (hne hb), Below.heap_setCell _ _ _ _ (hne hb), Below.heap_setCell _ _ _ _ (hne hb)]
              exact hb
            exact SymsAt.keeps hs2 hk3 rfl
          · have h12 := hb1.trans ((hA1.out.trans (hb2.mono (by simp))).mono hb1.size)
            exact (((h12.setCell (p := ⟨w1.heap.size, 0, none⟩) hb1.size _).setCell (p := ⟨w1.heap.size, 1, none⟩) hb1.size _).setCell (p := ⟨w1.heap.size, 2, none⟩) hb1.size _)
        · have HOa' := hidep (HOa.out _ HX1.out HB1.out)
          clear HOa HOb
          go_wp2
          go_meet
          exact ⟨w1.heap.size, p1, d1, i1, a1, c1, rfl, by rw [HOa'.out]; rfl, by rw [HOa'.out]; exact hidep rfl, HN1.out, hs1.below hA1.out, hb1.trans (hA1.out.mono hb1.size)⟩
      case rest =>
        obtain ⟨b13, p2, d2, i2, a2, c2, rfl, rfl, HX, h13, hs2, hbc⟩ := hcut
        have hl13 := lt_of_block h13
        obtain ⟨q0, q1, q2⟩ := box3_cell h13
        have HH := hidep h13
        have hoc := ownR_below0 ho hbc
        have hkc := ownR_below0 hkp hbc
        have hbwc := hbw.trans (hbc.mono hbw.size)
        clear h13 HOa HOb HX1 hs1 hb1 HEA HEB ho hkp
        generalize edAt a b (k : Int) = oe at *
        obtain ⟨w1, hw1⟩ : ∃ w1 : World, w1 = wc := ⟨_, rfl⟩
        subst hw1
        obtain ⟨ao, co, rfl, hco, hmo⟩ := (Rd.of_own hoc).form
        obtain ⟨ak, ck, rfl, hck, hmk⟩ := (Rd.of_own hkc).form
        unfold maxLen at hmo hmk
        go_upto_if 57 with (fail)
        go_cut [9, 11] (fun s9 s11 wd => s11 = .int .i64 (insR oe ⟨sk, kp, ou⟩).skip ∧ wd.ownsRow w0.heap.size 34 2 s9 (insR oe ⟨sk, kp, ou⟩).out.length (symsC (insR oe ⟨sk, kp, ou⟩).out) ∧ wd.ownsRow w0.heap.size 45 2 (.slice ak kp.length ck) kp.length (pairsC kp) ∧ Below w0.heap.size w0 wd)
        case first =>
          cases oe with
          | none =>
            go_wp2
            go_meet
            exact ⟨rfl, hoc, hkc, hbwc⟩
          | some x =>
            have hx : x = ⟨p2, d2, i2⟩ := HX.out
            subst hx
            obtain ⟨x1, x2, x3⟩ := HXD.out _ rfl
            simp only at x1 x2 x3
            have hs2' := hs2
            have HAP := hidep (fun (W : World) (hg : w1.grownBy W (Value.slice ao ou.length co).ownBlock) => own_apart hoc hkc (by decide) hg)
            have HK := hidep (fun (W : World) (hg : w1.grownBy W (Value.slice ao ou.length co).ownBlock) => (Keeps.grown (T := fun t => t = 36) hoc hg (fun t ht e => by rw [ht] at e; exact absurd e (by decide))).2 b13 _ _ _ rfl HH.out)
            go_wp2_with (first
              | (at_builtin; refine wpList_append_rd _ rfl (.tmp 58) (.tmp 60) rfl slSyms w0.heap.size (.slice ao ou.length co) _ _ rfl hoc _ _ _ _ rfl hs2' (symsC_one _) (by unfold maxLen; omega) (by omega) hbwc.size ?_; intro v2 w2 hown2 hgr2 hat hnl; clear hat hnl; obtain ⟨e0, e1, e2⟩ := box3_cell (HK.out _ hgr2); have he13 := lt_of_block (HK.out _ hgr2))
              | fail)
            go_meet
            exact ⟨rfl, (by simp only [insR]; rw [symsC_append, List.length_append]; exact hown2), HAP.out _ hgr2, hbwc.grown hgr2 hbwc.size (fun g hg => (hoc.lt g hg).1)⟩
        case rest =>
          obtain ⟨rfl, hod, hkd, hbwd⟩ := hcut
          obtain ⟨wd, hwd⟩ : ∃ wd : World, wd = wc := ⟨_, rfl⟩
          subst hwd
          obtain ⟨n1, n2, n3, n4⟩ := insR_bd2 (o := oe) HXD.out (sk := sk) (kp := kp) (ou := ou) b1 b2
          have HIB2 := hidep (H0.out.below (HW4.out.trans (hbwd.mono HW4.out.size)))
          clear HX HXD hs2 q0 q1 q2 HH hl13 hoc hkc hbwc hco hmo
          generalize insR oe ⟨sk, kp, ou⟩ = s2 at *
          obtain ⟨sk2, kp2, ou2⟩ := s2
          simp only at hod n1 n2 n3 n4
          subst n3
          obtain ⟨ao, co, rfl, hco, hmo⟩ := (Rd.of_own hod).form
          unfold maxLen at hmo
          by_cases hke : k = base.length
          · have HFI := hidep (HF.out hke)
            rw [HFI.out] at HZ
            subst hke
            have hE := hidep hod
            have hF := hidep hkd
            have hB := hidep hbwd
            clear hod hkd hbwd
            by_cases h48 : 2048 < ou2.length
            · rw [if_pos h48] at HZ
              have h48' : (2048 : Int) < (ou2.length : Int) := by omega
              go_wp2
              go_ret3
              exact ⟨_, _, by rw [HZ.out] <;> rfl, by rw [HZ.out]; exact SymsAt.nil _, by rw [HZ.out]; exact Rd.nil _ _ _, HW4.out.trans (hB.out.mono HW4.out.size)⟩
            · rw [if_neg h48] at HZ
              have h48' : (ou2.length : Int) ≤ 2048 := by omega
              go_wp2
              go_ret3
              exact ⟨_, _, by rw [HZ.out] <;> rfl, by rw [HZ.out]; exact SymsAt.of_own hE.out, by rw [HZ.out]; exact Rd.of_own hF.out, HW4.out.trans (hB.out.mono HW4.out.size)⟩
          · have hke' : ¬ (k : Int) = (base.length : Int) := by omega
            have hkl2 : k < base.length := by omega
            by_cases hsk : 0 < sk2
            · have HS2 : Hid (placeR base a b (k + 1) = ⟨sk2 - 1, kp, ou2⟩) := hidep (by rw [HS1.out]; unfold keepR; rw [if_pos hsk])
              go_wp2
              go_roundg (base.length + 1 - (k + 1))
              case measure => have := HG.out; omega
              case rel => exact ⟨k + 1, by omega, rfl, by go_num, by rw [HS2.out], by rw [HS2.out]; exact hod, by rw [HS2.out]; exact hkd, hbwd⟩
            · have HS2 : Hid (placeR base a b (k + 1) = ⟨sk2, kp ++ [(k, ou2.length)], ou2 ++ [base[k]]⟩) := hidep (by rw [HS1.out]; unfold keepR; rw [if_neg hsk]; simp only; rw [take_one hkl2])
              have HOS := hidep (fun (W : World) (hg : (wd.alloc (.cells #[.int .i64 (k : Nat), .int .i64 (ou2.length : Nat)] 45)).grownBy W (Value.slice ak kp.length ck).ownBlock) => own_apart (hkd.alloc _) (hod.alloc _) (by decide) hg)
              have hbw1 := hidep (hbwd.alloc hbwd.size (.cells #[.int .i64 (k : Nat), .int .i64 (ou2.length : Nat)] 45))
              have hkd0 := hkd.alloc (.cells #[.int .i64 (k : Nat), .int .i64 (ou2.length : Nat)] 45)
              have HKL := hidep (fun g hg => (hkd.lt g hg).1)
              have hfr := Rd.fresh wd #[.int .i64 (k : Nat), .int .i64 (ou2.length : Nat)] 45 2 1 rfl (by decide)
              have hob : kp.length ≤ 2048 := by omega
              have hou : ou2.length ≤ 140000 := by omega
              have hkI : 0 ≤ (k : Int) := by omega
              have hkI2 : (k : Int) < (base.length : Int) := by omega
              clear hod hkd b4 n4
              go_upto_region 21 with (first
                | (at_builtin; refine wpList_append_rd _ rfl (.tmp 72) (.tmp 77) rfl slPair w0.heap.size (.slice ak kp.length ck) _ _ rfl hkd0 _ _ _ _ rfl hfr (by intro u hu; simp at hu; rcases hu with rfl | rfl <;> rfl) (by unfold maxLen; omega) (by omega) (by have := hbw1.out.size; omega) ?_; intro v3 w5 hown3 hgr3 hat hnl; clear hat hnl hfr hkd0; have hod := HOS.out _ hgr3; have hbw5 := hbw1.out.grown hgr3 hbw1.out.size HKL.out; have hsb := H0.out.below (HW4.out.trans (hbw5.mono HW4.out.size)))
                | fail)
              obtain ⟨bb, obb, rfl, hbb, hx0, hx1⟩ := hsb.at hkl2
              generalize base[k] = y at *
              obtain ⟨ylang, yc⟩ := y
              simp only at hx0 hx1
              have hod0 := hod.alloc (.cells #[.int .i64 ylang, .int .u8 yc] 34)
              have hfr := Rd.fresh w5 #[.int .i64 ylang, .int .u8 yc] 34 2 1 rfl (by decide)
              have hkd5 := hown3.alloc (.cells #[.int .i64 ylang, .int .u8 yc] 34)
              have hbw6 := hidep (hbw5.alloc hbw5.size (.cells #[.int .i64 ylang, .int .u8 yc] 34))
              have HH3 := hidep hown3
              clear hown3
              go_wp2_with (first
                | (at_builtin; refine wpList_append_rd _ rfl (.tmp 79) (.tmp 84) rfl slSyms w0.heap.size (.slice ao ou2.length co) _ _ rfl hod0 _ _ _ _ rfl hfr (by intro u hu; simp at hu; rcases hu with rfl | rfl <;> rfl) (by unfold maxLen; omega) (by omega) (by have := hbw6.out.size; omega) ?_; intro v4 w6 hown4 hgr4 hat hnl; clear hat hnl hfr)
                | fail)
              have hkd6 := own_apart hod0 hkd5 (by decide) hgr4
              have hbw7 := hbw6.out.grown hgr4 hbw6.out.size (fun g hg => (hod.lt g hg).1)
              go_roundg (base.length + 1 - (k + 1))
              case measure => have := HG.out; omega
              case rel => exact ⟨k + 1, by omega, rfl, by go_num, by rw [HS2.out], by rw [HS2.out]; simp only; rw [symsC_append, List.length_append]; exact hown4, by rw [HS2.out]; simp only; rw [pairsC_append, List.length_append]; exact hkd6, hbw7⟩
  · rw [if_pos hcl] at HZ
    have hpos : 0 < (clashP a b).length := List.length_pos_iff.2 hcl
    generalize clashP a b = L at *
    have hpos' : (0 : Int) < (L.length : Int) := by omega
    go_wp2_with (first
      | (go_at_call 50; (with_reducible refine (HC.out _ hb13).mono ?_); rintro e w4 ⟨vo, rfl, ho4, hb4⟩; obtain ⟨a4, c4, rfl, _, _⟩ := (Rd.of_own ho4).form)
      | fail)
    go_ret3
    exact ⟨_, _, by rw [HZ.out] <;> rfl, by rw [HZ.out]; exact SymsAt.nil _, by rw [HZ.out]; exact Rd.nil _ _ _, hb13.trans (hb4.mono hb13.size)⟩
end Go.Proofs.Ythdafajhohdkoaa
