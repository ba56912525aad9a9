/- Contract of the reference of package merge: Some: valid edits, whatever the numbers. -/
import Derived.Test.YthdafajhohdkoaaMgS
import Derived.Test.YthdafajhohdkoaaMgO
import Derived.Test.YthdafajhohdkoaaRefC
namespace Go.Proofs.Ythdafajhohdkoaa
open Go.RowKit Go.Lab
theorem intsC_mid (l : List Int) (i n : Nat) : ((intsC l).drop i).take n = intsC ((l.drop i).take n) := by simp [intsC, List.map_take, List.map_drop]
theorem ints_part {w : World} {a : Option Addr} {c : Nat} {l : List Int} (h : IntsAt w (.slice a l.length c) l) {x y : Nat} (h1 : x ≤ y) (h2 : y ≤ l.length) (h3 : l.length ≤ c) :
    IntsAt w (.slice (if c = x then a else a.map (·.add x)) (y - x) (c - x)) ((l.drop x).take (y - x)) := by
  have hp := Rd.part h.1 (l := x) (hh := y) (m := c) h1 h2 (by omega) (Nat.le_refl _)
  simp only [Nat.mul_one, intsC_mid] at hp
  refine ⟨?_, fun z hz => h.2 z (List.mem_of_mem_drop (List.mem_of_mem_take hz))⟩
  have e : ((l.drop x).take (y - x)).length = y - x := by simp; omega
  rw [e]
  exact hp
theorem box3_set2 {w : World} {b : Nat} {x y z u : Value} {t : TypeId} (h : w.heap[b]? = some (.cells #[x, y, z] t (0, 0))) : (w.setCell ⟨b, 2, none⟩ u).heap[b]? = some (.cells #[x, y, u] t (0, 0)) := by
  have := heap_setCell_same w b 2 #[x, y, z] t u h
  simpa using this
theorem box_free {w : World} {b o : Nat} {cs : Array Value} {t : TypeId} (h : w.heap[b]? = some (.cells cs t (0, 0))) : w.frozen? ⟨b, o, none⟩ = false := by simp [World.frozen?, h]
theorem fresh_edits (X : World) : (X.alloc (.cells #[] 36)).ownsRow X.heap.size 36 3 (.slice (some ⟨X.heap.size, 0, none⟩) 0 0) 0 [] :=
  World.ownsRow_made (base := X.heap.size) (e := 36) (size := 3) X #[] 0 (Nat.le_refl _) (by decide) (by simp)
/-- A slice in another block than the one that grows. -/
theorem rd_grown {w w' : World} {T : TypeId → Prop} {k n m c : Nat} {b : Nat} {cs : List Value} {row : Option Nat} (h : Rd w T k (.slice (some ⟨b, 0, none⟩) m c) n cs) (hg : w.grownBy w' row) (hne : some b ≠ row) : Rd w' T k (.slice (some ⟨b, 0, none⟩) m c) n cs := by
  obtain ⟨h1, a, cap, h2, h3, h4, h5, h6⟩ := h
  refine ⟨h1, a, cap, h2, h3, h4, h5, fun ad e h0 => ?_⟩
  obtain ⟨g1, cur, t, fz, g2, g3, g4⟩ := h6 ad e h0
  injection h2 with e1 e2 e3
  subst e
  injection e1 with e1
  subst e1
  exact ⟨g1, cur, t, fz, g2, (hg.block _ (lt_of_block g3) hne).trans g3, g4⟩
set_option maxRecDepth 100000 in
set_option maxHeartbeats 4000000 in
theorem some_any (v : Value) (l : List Int) (n : Nat) (odd : Bool) (w : World) (h : IntsAt w v l) (hn : n ≤ 4096) :
    Calls Try.prog 10 #[v, .int .i64 n, .bool odd] w fun e w' => ∃ u es, e = .returned u ∧ EditsAt w' u es ∧ validZ n es = true ∧ es.length ≤ 4 ∧ (∀ e ∈ es, e.ins.length ≤ 24) ∧ Below w.heap.size w w' := by
  obtain ⟨a, cap, rfl, hc, hm⟩ := h.1.form
  unfold maxLen at hm
  have HAT : Hid (∀ W i most, Below w.heap.size w W → Calls Try.prog 27 #[.slice a l.length cap, .int .i64 i, .int .i64 most] W fun e w' => e = .returned (.int .i64 (atZ l i most)) ∧ W = w') := hidep (fun W i most hW => at_any _ l i most W (h.below hW))
  have HR7 : Hid (∀ i most, 1 ≤ most → 0 ≤ atZ l i most ∧ atZ l i most < most) := hidep (fun i most hm => atZ_rng l i most hm)
  go_enter Try.func10, Try.ntmps10
  go_upto_if 12 with (fail)
  go_cut [8] (fun s8 wc => ∃ p0 : Nat, p0 ≤ 2 ∧ s8 = .int .i64 p0 ∧ Hid (wc = w))
  case first =>
    cases odd
    · go_wp2
      go_meet
      exact ⟨0, by omega, rfl, hidep rfl⟩
    · go_wp2
      go_meet
      exact ⟨2, by omega, rfl, hidep rfl⟩
  case rest =>
    obtain ⟨p0, hp0, rfl, hwc⟩ := hcut
    have hwc' := hwc.out
    clear hwc
    subst hwc'
    obtain ⟨w0, hw0⟩ : ∃ w0 : World, w0 = wc := ⟨_, rfl⟩
    subst hw0
    go_wp2
    go_loopg [7, 8, 9] 4 (fun g o p i wr => ∃ (k q : Nat) (lst : List EV), k ≤ 4 ∧ 4 - k = g ∧ i = .int .i64 k ∧ p = .int .i64 q ∧ q ≤ 2 + 16 * k ∧ lst.length ≤ k ∧ OwnEv wr w0.heap.size o lst ∧ Hid (validZ n (lst.map (·.1)) = true) ∧ Hid (∀ x ∈ lst, x.1.ins.length ≤ 24) ∧ Below w0.heap.size w0 wr)
    case atStart => exact ⟨0, p0, [], by omega, rfl, rfl, rfl, by omega, by simp, ⟨World.ownsRow_nil _ _ _ _, by simp⟩, hidep rfl, hidep (by simp), Below.refl _ _⟩
    case round =>
      obtain ⟨k, q, lst, hk, hg, rfl, rfl, hq, hlk, hown, HV, HIN, hbw⟩ := hrel
      have HG := hidep hg
      clear hg
      obtain ⟨ao, co, rfl, _, _⟩ := hown.at.form
      by_cases hin : 4 * k + 3 < l.length ∧ k < 4
      · obtain ⟨hlt, hk4⟩ := hin
        obtain ⟨k4, hk4e⟩ : ∃ k4 : Nat, k4 = 4 * k := ⟨_, rfl⟩
        have hmul : (4 : Int) * (k : Int) = (k4 : Int) := by omega
        have hlt' : k4 + 3 < l.length := by omega
        obtain ⟨d, hd⟩ : ∃ d : Nat, atZ l (k4 : Int) 6 = (d : Int) := ⟨(atZ l (k4 : Int) 6).toNat, by have := (HR7.out (k4 : Int) 6 (by omega)).1; omega⟩
        obtain ⟨dl, hdl⟩ : ∃ dl : Nat, atZ l ((k4 : Int) + 1) 4 = (dl : Int) := ⟨(atZ l ((k4 : Int) + 1) 4).toNat, by have := (HR7.out ((k4 : Int) + 1) 4 (by omega)).1; omega⟩
        obtain ⟨tk, htk⟩ : ∃ tk : Nat, atZ l ((k4 : Int) + 2) 6 = (tk : Int) := ⟨(atZ l ((k4 : Int) + 2) 6).toNat, by have := (HR7.out ((k4 : Int) + 2) 6 (by omega)).1; omega⟩
        have hd5 : d ≤ 5 := by have := (HR7.out (k4 : Int) 6 (by omega)).2; omega
        have hdl3 : dl ≤ 3 := by have := (HR7.out ((k4 : Int) + 1) 4 (by omega)).2; omega
        have htk5 : tk ≤ 5 := by have := (HR7.out ((k4 : Int) + 2) 6 (by omega)).2; omega
        have HD := hidep hd
        have HDL := hidep hdl
        have HTK := hidep htk
        have HK4 := hidep hk4e
        have hml : (k4 : Int) + 3 < (l.length : Int) := by omega
        clear hd hdl htk hk4e hlt
        go_upto_if 44 with (go_at_call 27; refine (HAT.out _ _ _ (by first | exact hbw | exact hbw.alloc hbw.size _)).mono ?_; rintro e w' ⟨rfl, rfl⟩; first | rw [HD.out] | rw [HDL.out] | rw [HTK.out])
        have HBX := hidep (heap_alloc_new wr (.cells #[.int .i64 ((q : Int) + (d : Int)), .int .i64 (dl : Int), .slice none 0 0] 36))
        have HBW := hidep (hbw.alloc hbw.size (.cells #[.int .i64 ((q : Int) + (d : Int)), .int .i64 (dl : Int), .slice none 0 0] 36))
        have HBR := hidep (show Below wr.heap.size wr (wr.alloc (.cells #[.int .i64 ((q : Int) + (d : Int)), .int .i64 (dl : Int), .slice none 0 0] 36)) from (Below.refl _ _).alloc (Nat.le_refl _) _)
        go_cut [] (fun wc => ∃ (ai : Option Addr) (ci : Nat) (ins : List Sym), wc.heap[wr.heap.size]? = some (.cells #[.int .i64 ((q : Int) + (d : Int)), .int .i64 (dl : Int), .slice ai ins.length ci] 36 (0, 0)) ∧ SymsAt wc (.slice ai ins.length ci) ins ∧ Hid (ins.length ≤ 24) ∧ Below wr.heap.size wr wc)
        case first =>
          obtain ⟨q2, hq2⟩ : ∃ q2 : Nat, (k4 : Int) + 2 = (q2 : Int) := ⟨k4 + 2, by omega⟩
          obtain ⟨q3, hq3⟩ : ∃ q3 : Nat, (q2 : Int) + (tk : Int) = (q3 : Int) := ⟨q2 + tk, by omega⟩
          have HSY : Hid (∀ W u XS, IntsAt W u XS → Below (wr.alloc (.cells #[.int .i64 ((q : Int) + (d : Int)), .int .i64 (dl : Int), .slice none 0 0] 36)).heap.size (wr.alloc (.cells #[.int .i64 ((q : Int) + (d : Int)), .int .i64 (dl : Int), .slice none 0 0] 36)) W → Calls Try.prog 9 #[u] W fun e w' => ∃ a2 k2, e = .returned (.slice a2 (symsZ XS).length k2) ∧ SymsAt w' (.slice a2 (symsZ XS).length k2) (symsZ XS) ∧ Below wr.heap.size wr w' ∧
              w'.heap[wr.heap.size]? = some (.cells #[.int .i64 ((q : Int) + (d : Int)), .int .i64 (dl : Int), .slice none 0 0] 36 (0, 0)) ∧ w'.cell? ⟨wr.heap.size, 2, none⟩ = some (.slice none 0 0) ∧ w'.frozen? ⟨wr.heap.size, 2, none⟩ = false) := hidep (fun W u XS hx hW => (syms_any u XS W hx).mono (fun e w' ⟨u', he, ho, hb⟩ => by
            obtain ⟨a2, k2, rfl, _, _⟩ := (Rd.of_own ho).form
            have hb2 := hW.trans (hb.mono hW.size)
            have hbx := (hb2.block _ (by simp)).trans HBX.out
            exact ⟨a2, k2, he, SymsAt.of_own ho, HBR.out.trans (hb2.mono (by simp)), hbx, (box3_cell hbx).2.2, box_free hbx⟩))
          have hpart : ∀ hi : Nat, q2 ≤ hi → hi ≤ l.length → IntsAt (wr.alloc (.cells #[.int .i64 ((q : Int) + (d : Int)), .int .i64 (dl : Int), .slice none 0 0] 36)) (.slice (a.map (·.add q2)) (hi - q2) (cap - q2)) ((l.drop q2).take (hi - q2)) := fun hi h1 h2 => by
            have := ints_part (h.below HBW.out) (x := q2) (y := hi) h1 h2 hc
            rwa [if_neg (by omega)] at this
          have hq4 : ¬ cap = q2 := by omega
          have hq5 : (0 : Int) ≤ (q2 : Int) := by omega
          have hq6 : (q2 : Int) ≤ (q3 : Int) := by omega
          have hq7 : (l.length : Int) ≤ (cap : Int) := by omega
          have hq8 : (q2 : Int) ≤ (l.length : Int) := by omega
          by_cases htk4 : (tk : Int) < 4
          · have hpt := hidep (hpart (min (q3 : Int) (l.length : Int)).toNat (by omega) (by omega))
            have hq9 : (q3 : Int) ≤ (cap : Int) ∨ (l.length : Int) ≤ (cap : Int) := by omega
            clear hpart
            generalize (l.drop q2).take ((min (q3 : Int) (l.length : Int)).toNat - q2) = XS at *
            go_wp2_with (go_at_call 9; (with_reducible refine (HSY.out _ _ XS hpt.out (Below.refl _ _)).mono ?_); rintro e w1 ⟨a2, k2, rfl, hs, hb1, hbx, hcx, hfx⟩)
            go_meet
            have hlen := symsZ_len XS
            exact ⟨a2, k2, symsZ XS, box3_set2 hbx, hs.keeps (Keeps.setCell (T := fun t => t = 34) (a := ⟨wr.heap.size, 2, none⟩) hbx (fun _ hs e => by rw [hs] at e; exact absurd e (by decide)) _) rfl, hidep hlen, hb1.setCell (p := ⟨wr.heap.size, 2, none⟩) (Nat.le_refl _) _⟩
          · clear hpart
            go_wp2
            go_meet
            exact ⟨none, 0, [], HBX.out, SymsAt.nil _, hidep (by simp), HBR.out⟩
        case rest =>
          obtain ⟨ai, ci, ins, hbx, hs, HIL, hbc⟩ := hcut
          have hownc := hown.below hbc
          have hbwc := hbw.trans (hbc.mono hbw.size)
          have HRB := hidep (fun X (hX : Below wc.heap.size wc X) => (hownc.below hX).at.1)
          have hone := evC_one wc lst hownc.2
          have HS := hidep hs
          have HX := hidep hbx
          obtain ⟨e80, e81, e82⟩ := box3_cell hbx
          have h8l := lt_of_block hbx
          have h8a : ∀ o : Obj, wr.heap.size < (wc.alloc o).heap.size := fun o => by simp; omega
          have HO := hidep hownc
          have hlk4 : lst.length ≤ 4 := by omega
          have HOL : Hid (∀ g, some g = (Value.slice ao lst.length co).ownBlock → g < wr.heap.size) := hidep (fun g hg => (hown.1.lt g hg.symm).2)
          clear hown hs hbx HBX HBW HBR
          go_upto_region 13 with (fail)
          go_cut [67] (fun s67 wd => s67 = .bool (validZ n (lst.map (·.1) ++ [⟨(q : Int) + (d : Int), (dl : Int), ins⟩])) ∧ Below wc.heap.size wc wd)
          case first =>
            obtain ⟨wo, hwo⟩ : ∃ wo : World, wo = wc := ⟨_, rfl⟩
            subst hwo
            have hA0 : Below wo.heap.size wo (wo.alloc (.cells #[] 36)) := (Below.refl _ wo).alloc (Nat.le_refl _) _
            have hA1 : Below wo.heap.size wo (wo.alloc (.cells #[.int .i64 ((q : Int) + (d : Int)), .int .i64 (dl : Int), .slice ai ins.length ci] 36)) := (Below.refl _ wo).alloc (Nat.le_refl _) _
            have hA01 : Below wo.heap.size wo ((wo.alloc (.cells #[] 36)).alloc (.cells #[.int .i64 ((q : Int) + (d : Int)), .int .i64 (dl : Int), .slice ai ins.length ci] 36)) := hA0.alloc (by simp) _
            have hA10 : Below wo.heap.size wo ((wo.alloc (.cells #[.int .i64 ((q : Int) + (d : Int)), .int .i64 (dl : Int), .slice ai ins.length ci] 36)).alloc (.cells #[] 36)) := hA1.alloc (by simp) _
            have hfrL := True.intro
            go_region_held3 (fun w' => w'.cell? ⟨wr.heap.size, 0, none⟩ = some (.int .i64 ((q : Int) + (d : Int))) ∧ w'.cell? ⟨wr.heap.size, 1, none⟩ = some (.int .i64 (dl : Int)) ∧ w'.cell? ⟨wr.heap.size, 2, none⟩ = some (.slice ai ins.length ci))
              (first | exact ⟨e80, e81, e82⟩ | exact ⟨f80, f81, f82⟩ | exact ⟨j80, j81, j82⟩ | exact ⟨k80, k81, k82⟩ | go_keep)
              (first
                | (refine step_append_rd _ (by rfl) (.tmp 60) (.tmp 61) (by rfl) slEdits _ (.slice (some ⟨wo.heap.size, 0, none⟩) 0 0) 0 [] (by rfl) (by exact fresh_edits _) _ _ _ _ (by rfl) (by first | exact HRB.out _ hA0 | exact HRB.out _ hA0.drew) hone (by unfold maxLen; omega) (by omega) (by first | (simp; done) | (simp; omega)) ?_; intro v2 w2 hown2 hgr2 hat hnl; clear hat hnl; simp only [Nat.zero_add, List.nil_append] at hown2; have hb2 : Below wo.heap.size wo w2 := (hA0).grown (row := some (wo.heap.size)) (by first | exact hgr2 | exact grown_undrew hgr2) (by simp; try omega) (by intro k hk; injection hk with hk; omega); have f80 := (hb2.cell (p := ⟨wr.heap.size, 0, none⟩) h8l).trans e80; have f81 := (hb2.cell (p := ⟨wr.heap.size, 1, none⟩) h8l).trans e81; have f82 := (hb2.cell (p := ⟨wr.heap.size, 2, none⟩) h8l).trans e82; have hO2 : OwnEv w2 wo.heap.size v2 lst := ⟨ownR_base0 hown2 (by first | exact Nat.le_refl _ | (simp; done) | (simp; omega)), fun x hx => ((HO.out.2 x hx).below hb2)⟩; have HO2 := hidep hO2; clear hO2; obtain ⟨a2, c2, rfl, _, _⟩ := (Rd.of_own hown2).form; dsimp only)
                | (refine step_append_rd _ (by rfl) (.tmp 60) (.tmp 61) (by rfl) slEdits _ (.slice (some ⟨wo.heap.size, 0, none⟩) 0 0) 0 [] (by rfl) (by exact (fresh_edits _).alloc _) _ _ _ _ (by rfl) (by first | exact HRB.out _ hA01 | exact HRB.out _ hA01.drew) hone (by unfold maxLen; omega) (by omega) (by first | (simp; done) | (simp; omega)) ?_; intro v2 w2 hown2 hgr2 hat hnl; clear hat hnl; simp only [Nat.zero_add, List.nil_append] at hown2; have hb2 : Below wo.heap.size wo w2 := (hA01).grown (row := some (wo.heap.size)) (by first | exact hgr2 | exact grown_undrew hgr2) (by simp; try omega) (by intro k hk; injection hk with hk; omega); have hfrL : Rd w2 (· = 36) 3 (.slice (some ⟨wo.heap.size + 1, 0, none⟩) 1 1) 1 [.int .i64 ((q : Int) + (d : Int)), .int .i64 (dl : Int), .slice ai ins.length ci] := (by have hz := Rd.fresh (wo.alloc (.cells #[] 36)) #[.int .i64 ((q : Int) + (d : Int)), .int .i64 (dl : Int), .slice ai ins.length ci] 36 3 1 rfl (by decide); rw [World.size_alloc] at hz; exact rd_grown (row := some wo.heap.size) hz (by first | exact hgr2 | exact grown_undrew hgr2) (by simp)); have f80 := (hb2.cell (p := ⟨wr.heap.size, 0, none⟩) h8l).trans e80; have f81 := (hb2.cell (p := ⟨wr.heap.size, 1, none⟩) h8l).trans e81; have f82 := (hb2.cell (p := ⟨wr.heap.size, 2, none⟩) h8l).trans e82; have hO2 : OwnEv w2 wo.heap.size v2 lst := ⟨ownR_base0 hown2 (by first | exact Nat.le_refl _ | (simp; done) | (simp; omega)), fun x hx => ((HO.out.2 x hx).below hb2)⟩; have HO2 := hidep hO2; clear hO2; obtain ⟨a2, c2, rfl, _, _⟩ := (Rd.of_own hown2).form; dsimp only)
                | (refine step_append_rd _ (by rfl) (.tmp 60) (.tmp 61) (by rfl) slEdits _ (.slice (some ⟨wo.heap.size + 1, 0, none⟩) 0 0) 0 [] (by rfl) (by exact (by have := fresh_edits (wo.alloc (.cells #[.int .i64 ((q : Int) + (d : Int)), .int .i64 (dl : Int), .slice ai ins.length ci] 36)); rwa [World.size_alloc] at this)) _ _ _ _ (by rfl) (by first | exact HRB.out _ hA10 | exact HRB.out _ hA10.drew) hone (by unfold maxLen; omega) (by omega) (by first | (simp; done) | (simp; omega)) ?_; intro v2 w2 hown2 hgr2 hat hnl; clear hat hnl; simp only [Nat.zero_add, List.nil_append] at hown2; have hb2 : Below wo.heap.size wo w2 := (hA10).grown (row := some (wo.heap.size + 1)) (by first | exact hgr2 | exact grown_undrew hgr2) (by simp; try omega) (by intro k hk; injection hk with hk; omega); have hfrL : Rd w2 (· = 36) 3 (.slice (some ⟨wo.heap.size, 0, none⟩) 1 1) 1 [.int .i64 ((q : Int) + (d : Int)), .int .i64 (dl : Int), .slice ai ins.length ci] := (by have hz := (Rd.fresh wo #[.int .i64 ((q : Int) + (d : Int)), .int .i64 (dl : Int), .slice ai ins.length ci] 36 3 1 rfl (by decide)).below ((Below.refl _ _).alloc (Nat.le_refl _) (.cells #[] 36)); exact rd_grown (row := some (wo.heap.size + 1)) hz (by first | exact hgr2 | exact grown_undrew hgr2) (by simp)); have f80 := (hb2.cell (p := ⟨wr.heap.size, 0, none⟩) h8l).trans e80; have f81 := (hb2.cell (p := ⟨wr.heap.size, 1, none⟩) h8l).trans e81; have f82 := (hb2.cell (p := ⟨wr.heap.size, 2, none⟩) h8l).trans e82; have hO2 : OwnEv w2 wo.heap.size v2 lst := ⟨ownR_base0 hown2 (by first | exact Nat.le_refl _ | (simp; done) | (simp; omega)), fun x hx => ((HO.out.2 x hx).below hb2)⟩; have HO2 := hidep hO2; clear hO2; obtain ⟨a2, c2, rfl, _, _⟩ := (Rd.of_own hown2).form; dsimp only)
                | (refine step_append_rd _ (by rfl) (.tmp 62) (.tmp 64) (by rfl) slEdits wo.heap.size (.slice a2 lst.length c2) lst.length (evC lst) (by rfl) (by exact (HO2.out.1.alloc _)) _ _ _ _ (by rfl) (by exact (Rd.fresh w2 #[.int .i64 ((q : Int) + (d : Int)), .int .i64 (dl : Int), .slice ai ins.length ci] 36 3 1 rfl (by decide))) (by intro u hu; simp at hu; rcases hu with rfl | rfl | rfl <;> rfl) (by unfold maxLen; omega) (by omega) (by have := hb2.size; simp; omega) ?_; intro v4 w4 hown4 hgr4 hat hnl; clear hat hnl; have hxa := (show Below w2.heap.size w2 (w2.alloc (.cells #[.int .i64 ((q : Int) + (d : Int)), .int .i64 (dl : Int), .slice ai ins.length ci] 36)) from (Below.refl _ _).alloc (Nat.le_refl _) _); have hE4 := OwnEv.snoc (x := (⟨(q : Int) + (d : Int), (dl : Int), ins⟩, .slice ai ins.length ci)) (HO2.out.below hxa) ((HS.out.below hb2).below hxa) hown4 (by first | exact grown_undrew hgr4 | exact hgr4); have HE4 : Hid (EditsAt w4 v4 (lst.map (·.1) ++ [⟨(q : Int) + (d : Int), (dl : Int), ins⟩])) := hidep (by have := hE4.at.edits; rwa [List.map_append] at this); have hb4 : Below wo.heap.size wo w4 := (hb2.trans (hxa.mono hb2.size)).grown (by first | exact grown_undrew hgr4 | exact hgr4) (by have := hb2.size; simp; try omega) (fun g hg => (HO2.out.1.lt g hg).1); have j80 := (hb4.cell (p := ⟨wr.heap.size, 0, none⟩) h8l).trans e80; have j81 := (hb4.cell (p := ⟨wr.heap.size, 1, none⟩) h8l).trans e81; have j82 := (hb4.cell (p := ⟨wr.heap.size, 2, none⟩) h8l).trans e82; obtain ⟨a4, c4, rfl, _, _⟩ := (Rd.of_own hown4).form; clear hown4 hE4; dsimp only)
                | (refine step_append_rd _ (by rfl) (.tmp 62) (.tmp 64) (by rfl) slEdits wo.heap.size (.slice a2 lst.length c2) lst.length (evC lst) (by rfl) (by exact HO2.out.1) _ _ _ _ (by rfl) (by exact hfrL) (by intro u hu; simp at hu; rcases hu with rfl | rfl | rfl <;> rfl) (by unfold maxLen; omega) (by omega) (by have := hb2.size; simp; omega) ?_; intro v4 w4 hown4 hgr4 hat hnl; clear hat hnl; have hxa := (Below.refl w2.heap.size w2); have hE4 := OwnEv.snoc (x := (⟨(q : Int) + (d : Int), (dl : Int), ins⟩, .slice ai ins.length ci)) HO2.out (HS.out.below hb2) hown4 (by first | exact grown_undrew hgr4 | exact hgr4); have HE4 : Hid (EditsAt w4 v4 (lst.map (·.1) ++ [⟨(q : Int) + (d : Int), (dl : Int), ins⟩])) := hidep (by have := hE4.at.edits; rwa [List.map_append] at this); have hb4 : Below wo.heap.size wo w4 := (hb2.trans (hxa.mono hb2.size)).grown (by first | exact grown_undrew hgr4 | exact hgr4) (by have := hb2.size; simp; try omega) (fun g hg => (HO2.out.1.lt g hg).1); have j80 := (hb4.cell (p := ⟨wr.heap.size, 0, none⟩) h8l).trans e80; have j81 := (hb4.cell (p := ⟨wr.heap.size, 1, none⟩) h8l).trans e81; have j82 := (hb4.cell (p := ⟨wr.heap.size, 2, none⟩) h8l).trans e82; obtain ⟨a4, c4, rfl, _, _⟩ := (Rd.of_own hown4).form; clear hown4 hE4; dsimp only)
                | (go_at_call 24; refine (valid34_any _ n (lst.map (·.1) ++ [⟨(q : Int) + (d : Int), (dl : Int), ins⟩]) _ (by first | exact HE4.out | exact HE4.out.below (Below.refl _ _).drew) (by omega) (by omega)).mono ?_; rintro e w5 ⟨rfl, hb5⟩; have hb55 : Below w4.heap.size w4 w5 := (by first | exact hb5 | exact (Below.refl _ _).drew.trans hb5); have hb6 := hb4.trans (hb55.mono hb4.size); have k80 := (hb6.cell (p := ⟨wr.heap.size, 0, none⟩) h8l).trans e80; have k81 := (hb6.cell (p := ⟨wr.heap.size, 1, none⟩) h8l).trans e81; have k82 := (hb6.cell (p := ⟨wr.heap.size, 2, none⟩) h8l).trans e82; dsimp only)
                | fail)
            all_goals
              go_wp2
              go_meet
              exact ⟨rfl, hb6⟩
          case rest =>
            obtain ⟨rfl, hbd⟩ := hcut
            obtain ⟨wd, hwd⟩ : ∃ wd : World, wd = wc := ⟨_, rfl⟩
            subst hwd
            have hXd := (hbd.block _ h8l).trans HX.out
            obtain ⟨d80, d81, d82⟩ := box3_cell hXd
            have hld := lt_of_block hXd
            have hOd := HO.out.below hbd
            have hsd := HS.out.below hbd
            have hbwd := hbwc.trans (hbd.mono hbwc.size)
            clear h8a hone HRB e80 e81 e82 hXd
            cases hv : validZ n (lst.map (·.1) ++ [⟨(q : Int) + (d : Int), (dl : Int), ins⟩])
            · go_wp2
              go_roundg (4 - (k + 1))
              case measure => have := HG.out; omega
              case rel => exact ⟨k + 1, q + d, lst, by omega, by have := HG.out; omega, by go_num, by go_num, by omega, by omega, hOd, HV, HIN, hbwd⟩
            · have HVV := hidep hv
              have hfr := Rd.fresh wd #[.int .i64 ((q : Int) + (d : Int)), .int .i64 (dl : Int), .slice ai ins.length ci] 36 3 1 rfl (by decide)
              clear hv
              go_wp2_with (at_builtin; refine wpList_append_rd _ rfl (.tmp 68) (.tmp 70) rfl slEdits w0.heap.size (.slice ao lst.length co) _ _ rfl (hOd.1.alloc _) _ _ _ _ rfl hfr (by intro u hu; simp at hu; rcases hu with rfl | rfl | rfl <;> rfl) (by unfold maxLen; omega) (by omega) (by have := hbwd.size; simp; omega) ?_; intro v4 w4 hown4 hgr4 hat hnl; clear hat hnl hfr; have hxa : Below wd.heap.size wd (wd.alloc (.cells #[.int .i64 ((q : Int) + (d : Int)), .int .i64 (dl : Int), .slice ai ins.length ci] 36)) := (Below.refl _ _).alloc (Nat.le_refl _) _; have hfin := OwnEv.snoc (x := (⟨(q : Int) + (d : Int), (dl : Int), ins⟩, .slice ai ins.length ci)) (hOd.below hxa) (hsd.below hxa) hown4 hgr4; have hb4 : Below w0.heap.size w0 w4 := (hbwd.trans (hxa.mono hbwd.size)).grown hgr4 (by have := hbwd.size; simp; omega) (fun g hg => (hOd.1.lt g hg).1); have j80 := (hgr4.cell (a := ⟨wr.heap.size, 0, none⟩) ((hxa.cell (p := ⟨wr.heap.size, 0, none⟩) hld).trans d80) (fun e => absurd (HOL.out _ e) (Nat.lt_irrefl _))); have j81 := (hgr4.cell (a := ⟨wr.heap.size, 1, none⟩) ((hxa.cell (p := ⟨wr.heap.size, 1, none⟩) hld).trans d81) (fun e => absurd (HOL.out _ e) (Nat.lt_irrefl _))))
              go_roundg (4 - (k + 1))
              case measure => have := HG.out; omega
              case rel => exact ⟨k + 1, q + d + dl + 1, _, by omega, by have := HG.out; omega, by go_num, by go_num, by omega, by simp; omega, hfin, hidep (by rw [List.map_append]; exact HVV.out), hidep (fun y hy => by
                rcases List.mem_append.1 hy with hy | hy
                · exact HIN.out y hy
                · simp at hy; subst hy; exact HIL.out), hb4⟩
      · have HF : Hid (∀ X, OwnEv X w0.heap.size (.slice ao lst.length co) lst → Below w0.heap.size w0 X → ∃ u es, Ending.returned (.slice ao lst.length co) = .returned u ∧ EditsAt X u es ∧ validZ n es = true ∧ es.length ≤ 4 ∧ (∀ e ∈ es, e.ins.length ≤ 24) ∧ Below w0.heap.size w0 X) := hidep (fun X hX hB =>
          ⟨_, lst.map (·.1), rfl, hX.at.edits, HV.out, by rw [List.length_map]; omega, fun e he => by obtain ⟨y, hy, rfl⟩ := List.mem_map.1 he; exact HIN.out y hy, hB⟩)
        by_cases h1 : 4 * k + 3 < l.length
        · have h4 : k = 4 := by omega
          subst h4
          have hml : (4 : Int) * 4 + 3 < (l.length : Int) := by omega
          go_wp2
          go_ret
          obtain ⟨u, es, hu⟩ := HF.out _ hown hbw
          first | exact ⟨u, es, hu⟩ | exact ⟨u, hu.1, es, hu.2⟩
        · have hml : (l.length : Int) ≤ 4 * (k : Int) + 3 := by omega
          go_wp2
          go_ret
          obtain ⟨u, es, hu⟩ := HF.out _ hown hbw
          first | exact ⟨u, es, hu⟩ | exact ⟨u, hu.1, es, hu.2⟩
end Go.Proofs.Ythdafajhohdkoaa
