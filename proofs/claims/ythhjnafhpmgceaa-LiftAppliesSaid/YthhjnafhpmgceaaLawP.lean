/- For all lists of ints and ints the law LiftApplies returns true, and leaves its arguments as they were: no condition. -/
import Derived.Test.YthhjnafhpmgceaaLiftJ
import Derived.Test.YthhjnafhpmgceaaBentB
import Derived.Test.YthhjnafhpmgceaaFrame
namespace Go.Proofs.Ythhjnafhpmgceaa
open Go.RowKit Go.Lab
theorem edits_spared {w w' : World} {v : Value} {l : List Edit} {us : List Value} {uk : Value} (hl : us.length = l.length) (hr : Rd w (· = 53) 3 v l.length (editsC l us)) (hs : ∀ i (h : i < l.length) (h' : i < us.length), SymsAt w us[i] l[i].ins)
    (hk : Keeps (fun t => t ≠ 30) w w') (hsp : Spares uk w w') (hf : ∀ x ∈ us, FarFrom uk x) : EditsAt w' v l :=
  ⟨us, hl, hr.keeps (hk.mono (by rintro t rfl; decide)), fun i h h' => hsp.1 _ _ (hs i h h') (hf _ (List.getElem_mem _))⟩
theorem rep_own (n : Nat) : symsC (List.replicate (n + 1) (⟨0, 122⟩ : Sym)) = symsC (List.replicate n ⟨0, 122⟩) ++ [.int .i64 0, .int .u8 122] := by
  rw [List.replicate_succ', symsC_append]
  rfl
set_option maxHeartbeats 8000000 in
set_option maxRecDepth 100000 in
theorem lawP_any (v1 v2 : Value) (l m : List Int) (at_ how by_ : Int) (w : World) (h1 : IntsAt w v1 l) (h2 : IntsAt w v2 m)
    (r1 : -9223372036854775808 ≤ at_ ∧ at_ ≤ 9223372036854775807) (r2 : -9223372036854775808 ≤ how ∧ how ≤ 9223372036854775807) (r3 : -9223372036854775808 ≤ by_ ∧ by_ ≤ 9223372036854775807) :
    Calls Try.prog 4 #[v1, v2, .int .i64 at_, .int .i64 how, .int .i64 by_] w fun e w' => e = .returned (.bool true) ∧ Below w.heap.size w w' := by
  have HP := hidep (pair2_any v1 v2 l m w h1 h2)
  have hlA := symsZ_len l
  have HR1 := hidep r1
  have HR2 := hidep r2
  have HR3 := hidep r3
  have ha4 := aroundZ_rng by_ 4 (by omega)
  generalize hA4 : aroundZ by_ 4 = a4 at *
  have HA4 : Hid (∀ W, Calls Try.prog 9 #[.int .i64 by_, .int .i64 4] W fun e w' => e = .returned (.int .i64 a4) ∧ W = w') := hidep (fun W => by rw [← hA4]; exact around_any by_ 4 W r3.1 r3.2)
  obtain ⟨c30, hc30⟩ : ∃ c : Nat, aroundZ by_ 30 = (c : Int) := ⟨(aroundZ by_ 30).toNat, by have := (aroundZ_rng by_ 30 (by omega)).1; omega⟩
  have hc30b : c30 ≤ 29 := by have := (aroundZ_rng by_ 30 (by omega)).2; omega
  have HA30 : Hid (∀ W, Calls Try.prog 9 #[.int .i64 by_, .int .i64 30] W fun e w' => e = .returned (.int .i64 c30) ∧ W = w') := hidep (fun W => by rw [← hc30]; exact around_any by_ 30 W r3.1 r3.2)
  clear h1 h2 hA4 hc30 r1 r2 r3
  generalize symsZ l = A at *
  go_enter Try.func4, Try.ntmps4
  go_upto_region 2 with (first
    | (go_at_call 7; refine HP.out.mono ?_; rintro e w1 ⟨va, vb, ve, es, Bm, rfl, hva, hed, hle, hin, hBm1, hBm2, hb1⟩)
    | fail)
  have HVA := hidep hva
  obtain ⟨aa, ca, rfl, _, _⟩ := (hva w1 (Below.refl _ _)).form
  obtain ⟨us, hul, huo, hus, hap⟩ := hed
  obtain ⟨ae, ce, rfl, _, _⟩ := (Rd.of_own huo).form
  have hsh : ShL us := fun x hx => by
    obtain ⟨i, hi, rfl⟩ := List.getElem_of_mem hx
    rcases own_shape (hus i (by omega) hi) with ⟨h, _⟩ | ⟨g, c, h, _⟩
    · exact .inl h
    · exact .inr ⟨g, _, c, h⟩
  have hcoh := coh_of_apart hsh hap
  have HB1 := hidep (bent_any _ es us at_ how by_ Bm 67 w1 hul (Rd.of_own huo) hus hBm2 (by omega) (fun e he => by have := hin e he; omega) (by omega) (by omega) hcoh HR1.out HR2.out HR3.out)
  have HE1 : Hid (∀ w2 uk, (uk = .slice none 0 0 ∨ uk ∈ us) → Keeps (fun t => t ≠ 30) w1 w2 → Spares uk w1 w2 → EditsAt w2 (.slice ae es.length ce) es) := hidep (fun w2 uk hk hkp hsp => edits_spared hul (Rd.of_own huo) (fun i h h' => SymsAt.of_own (hus i h h')) hkp hsp (fun x hx => by
    rcases hk with rfl | hk
    · exact FarFrom.none x
    · exact hcoh.far hk hx))
  have HLW : Hid (∀ x ∈ us, ∀ g o s m cx, x = .slice (some ⟨g, o, s⟩) m cx → g < w1.heap.size) := hidep (fun x hx g o s m cx e => by
    obtain ⟨i, hi, rfl⟩ := List.getElem_of_mem hx
    exact ((hus i (by omega) hi).lt g (by rw [e]; rfl)).2)
  have HCOH := hidep hcoh
  have HAP := hidep hap
  have HSH := hidep hsh
  have HUS := hidep hus
  have HUO := hidep huo
  clear hva hsh hcoh hap hus huo
  go_upto_region 3 with (first
    | (go_at_call 12; refine HB1.out.mono ?_; rintro e w2 ⟨vo, rfl, hto⟩)
    | fail)
  obtain ⟨l1, us1, hl1, ho1, hs1, hbB1, hk1, ⟨uk, huk, hsp1⟩, hrel1, hcoh1, hlen1, hin1⟩ := hto
  have hRE2 : Rd w2 (· = 53) 3 (.slice ae es.length ce) es.length (editsC es us) := (Rd.of_own HUO.out).keeps (hk1.mono (by rintro t rfl; decide))
  have hSE2 : ∀ i (h : i < es.length) (h' : i < us.length), SymsAt w2 us[i] es[i].ins := fun i h h' => hsp1.1 _ _ (SymsAt.of_own (HUS.out i h h')) (by
    rcases huk with rfl | hk
    · exact FarFrom.none _
    · exact HCOH.out.far hk (List.getElem_mem _))
  have HRE2 := hidep hRE2
  have HSE2 := hidep hSE2
  clear hRE2 hSE2 HE1
  have hA2 := HVA.out w2 hbB1
  obtain ⟨ao, co, rfl, _, _⟩ := (Rd.of_own ho1).form
  have hbw2 : Below w.heap.size w w2 := hb1.trans (hbB1.mono hBm1)
  have hszB : Bm ≤ w2.heap.size := Nat.le_trans hBm2 hbB1.size
  have hul1 : us.length ≤ 3 := by omega
  have hul2 : l1.length ≤ 4 := by omega
  clear HB1 hk1 hsp1 huk
  go_cut [15] (fun s15 wc => wc.ownsRow w2.heap.size 30 2 s15 (A.length + 1) (symsC (A ++ [⟨a4 - 1, by_ % 256⟩])) ∧ Below w2.heap.size w2 wc)
  case first =>
    have hone := symsC_one A
    have hxa : Below w2.heap.size w2 (w2.alloc (.cells #[] 30)) := (Below.refl _ _).alloc (Nat.le_refl _) _
    have ha3 := hA2.below hxa
    go_wp2_with (first
      | (at_builtin; refine wpList_append_rd _ rfl (.tmp 37) (.tmp 38) rfl slSyms w2.heap.size (.slice (some ⟨w2.heap.size, 0, none⟩) 0 0) 0 [] rfl (fresh_syms w2) _ _ _ _ rfl ha3 hone (by unfold maxLen; omega) (by omega) (by simp) ?_; intro v3' w3 hown3 hgr3 hat hnl; clear hat hnl; simp only [Nat.zero_add, List.nil_append] at hown3; have hb3 := hxa.grown hgr3 (by simp) (fun g hg => by simp [Value.ownBlock] at hg; omega); obtain ⟨a3, c3, rfl, hc3, hc3'⟩ := (Rd.of_own hown3).form; clear hgr3)
      | (go_at_call 9; refine (HA4.out _).mono ?_; rintro e w' ⟨rfl, rfl⟩)
      | (at_builtin; refine wpList_append_rd _ rfl (.tmp 39) (.tmp 46) rfl slSyms w2.heap.size (.slice a3 A.length c3) _ _ rfl (hown3.alloc _) _ _ _ _ rfl (Rd.fresh w3 #[.int .i64 (a4 - 1), .int .u8 (by_ % 256)] 30 2 1 rfl (by decide)) (by intro u hu; simp at hu; rcases hu with rfl | rfl <;> rfl) (by unfold maxLen; omega) (by omega) (by have := hb3.size; simp; omega) ?_; intro v4' w4 hown4 hgr4 hat hnl; clear hat hnl; have hb4 := (hb3.alloc hb3.size (.cells #[.int .i64 (a4 - 1), .int .u8 (by_ % 256)] 30)).grown hgr4 (by have := hb3.size; simp; omega) (fun g hg => (hown3.lt g hg).1))
      | fail)
    go_meet
    refine ⟨?_, hb4⟩
    rw [symsC_append]
    exact hown4
  case rest =>
    obtain ⟨hodd, hb5⟩ := hcut
    obtain ⟨w5, rfl⟩ : ∃ w5 : World, w5 = wc := ⟨_, rfl⟩
    go_wp2
    go_loopg [16] (2020 + c30) (fun g o wr => ∃ n : Nat, n ≤ 2020 + c30 ∧ 2020 + c30 - n = g ∧ wr.ownsRow w5.heap.size 30 2 o n (symsC (List.replicate n ⟨0, 122⟩)) ∧ Below w5.heap.size w5 wr)
    case atStart => exact ⟨0, by omega, rfl, World.ownsRow_nil _ _ _ _, Below.refl _ _⟩
    case round =>
      obtain ⟨n, hn, hg, hlong, hb6⟩ := hrel
      have HG := hidep hg
      clear hg
      obtain ⟨al, cl, rfl, hcl, hcl2⟩ := (Rd.of_own hlong).form
      unfold maxLen at hcl2
      by_cases hlt : n < 2020 + c30
      · have hI1 : (n : Int) < 2020 + (c30 : Int) := by omega
        have hsz6 := hb6.size
        have hRO : Hid (symsC (List.replicate (n + 1) (⟨0, 122⟩ : Sym)) = symsC (List.replicate n ⟨0, 122⟩) ++ [.int .i64 0, .int .u8 122]) := hidep (rep_own n)
        have hfr := Rd.fresh wr #[.int .i64 0, .int .u8 122] 30 2 1 rfl (by decide)
        go_wp2_with (first
          | (go_at_call 9; refine (HA30.out _).mono ?_; rintro e w' ⟨rfl, rfl⟩)
          | (at_builtin; refine wpList_append_rd _ rfl (.tmp 54) (.tmp 56) rfl slSyms w5.heap.size (.slice al n cl) _ _ rfl (hlong.alloc _) _ _ _ _ rfl hfr (by intro u hu; simp at hu; rcases hu with rfl | rfl <;> rfl) (by unfold maxLen; omega) (by omega) (by simp; omega) ?_; intro v7 w7 hown7 hgr7 hat hnl; clear hat hnl)
          | fail)
        go_roundg (2020 + c30 - (n + 1))
        case measure => have := HG.out; omega
        case rel => exact ⟨n + 1, by omega, rfl, by rw [hRO.out]; exact hown7, (hb6.alloc hsz6 _).grown hgr7 (by simp; omega) (fun g hg => (hlong.lt g hg).1)⟩
      · have hI1 : 2020 + (c30 : Int) ≤ (n : Int) := by omega
        have hb26 : Below w2.heap.size w2 wr := hb5.trans (hb6.mono hb5.size)
        have hodd6 := ownR_below hodd hb6
        obtain ⟨ad, cd, rfl, _, _⟩ := (Rd.of_own hodd6).form
        go_upto_region 8 with (first
          | (go_at_call 9; refine (HA30.out _).mono ?_; rintro e w' ⟨rfl, rfl⟩)
          | fail)
        have hb28 : Below w2.heap.size w2 (wr.alloc (.cells #[.slice aa A.length ca, .slice ad (A.length + 1) cd, .slice al n cl] 23)) := hb26.alloc hb26.size _
        have hlong8 := hlong.alloc (.cells #[.slice aa A.length ca, .slice ad (A.length + 1) cd, .slice al n cl] 23)
        have hodd8 := hodd6.alloc (.cells #[.slice aa A.length ca, .slice ad (A.length + 1) cd, .slice al n cl] 23)
        have hTB := heap_alloc_new wr (.cells #[.slice aa A.length ca, .slice ad (A.length + 1) cd, .slice al n cl] 23)
        obtain ⟨tb, htb⟩ : ∃ tb, tb = wr.heap.size := ⟨_, rfl⟩
        rw [← htb] at hTB
        rw [← htb]
        clear hlong hodd6 htb
        generalize wr.alloc (.cells #[.slice aa A.length ca, .slice ad (A.length + 1) cd, .slice al n cl] 23) = w8 at *
        have hcoh1' := hcoh1 HAP.out
        have hs8 : ∀ i (h : i < l1.length) (h' : i < us1.length), w8.ownsRow Bm 30 2 us1[i] l1[i].ins.length (symsC l1[i].ins) := fun i h h' => ownR_below (hs1 i h h') hb28
        have hr8 : Rd w8 (· = 53) 3 (.slice ao l1.length co) l1.length (editsC l1 us1) := (Rd.of_own ho1).below hb28
        have HB2 : Hid (∀ q : Int, -9223372036854775808 ≤ q → q ≤ 9223372036854775807 → Calls Try.prog 12 #[.slice ao l1.length co, .int .i64 by_, .int .i64 q, .int .i64 at_] w8 fun e w' => ∃ u, e = .returned u ∧ BentTo w8 Bm 68 us1 u w') := hidep (fun q hq1 hq2 =>
          bent_any _ l1 us1 by_ q at_ Bm 68 w8 hl1 hr8 hs8 (Nat.le_trans hszB hb28.size) (by omega) hin1 (by omega) (by omega) hcoh1' HR3.out ⟨hq1, hq2⟩ HR1.out)
        have hlow1 : Hid (∀ x ∈ us1, ∀ g, x.ownBlock = some g → g < w2.heap.size) := hidep (fun x hx g hg => by
          obtain ⟨i, hi, rfl⟩ := List.getElem_of_mem hx
          exact ((hs1 i (by omega) hi).lt g hg).2)
        have HFIN : Hid (∀ u w9, BentTo w8 Bm 68 us1 u w9 → (∀ i, i < 3 → ∃ x lx, w9.cell? ⟨tb, i, none⟩ = some x ∧ SymsAt w9 x lx) ∧ EditsAt w9 (.slice ae es.length ce) es ∧ EditsAt w9 (.slice ao l1.length co) l1 ∧ (∃ l2, EditsAt w9 u l2) ∧ Below w.heap.size w w9 ∧ tb < w9.heap.size) := hidep (fun u w9 hto2 => by
          obtain ⟨l2, us2, hl2, ho2, hs2, hbB2, hk2, ⟨uk2, huk2, hsp2⟩, _, _, _, _⟩ := hto2
          have hfar : ∀ (x : Value), (∀ g o s m cx, x = .slice (some ⟨g, o, s⟩) m cx → w2.heap.size ≤ g) → FarFrom uk2 x := fun x hx g o s n c m cx e1 e2 h0 => by
            rcases huk2 with h | h
            · rw [h] at e1; cases e1
            · have h3 := hlow1.out _ h g (by rw [e1]; rfl)
              have h4 := hx g o s m cx e2
              omega
          have hT9 : w9.heap[tb]? = some (.cells #[.slice aa A.length ca, .slice ad (A.length + 1) cd, .slice al n cl] 23 (0, 0)) := hk2.2 tb _ _ _ (by decide) hTB
          have hAll := hb28.mono hszB
          have hA9 := HVA.out w9 (hbB1.trans (hAll.trans hbB2))
          have hO9 : SymsAt w9 (.slice ad (A.length + 1) cd) (A ++ [⟨a4 - 1, by_ % 256⟩]) := hsp2.1 _ _ (by
            have := Rd.of_own hodd8
            unfold SymsAt
            rw [List.length_append]
            exact this) (hfar _ (fun g o s m cx e => by injection e with e; exact (hodd8.lt g (by rw [e]; rfl)).1))
          have hL9 : SymsAt w9 (.slice al n cl) (List.replicate n ⟨0, 122⟩) := hsp2.1 _ _ (by
            have := Rd.of_own hlong8
            unfold SymsAt
            rw [List.length_replicate]
            exact this) (hfar _ (fun g o s m cx e => by injection e with e; exact Nat.le_trans hb5.size (hlong8.lt g (by rw [e]; rfl)).1))
          refine ⟨fun i hi => ?_, ?_, ?_, ⟨l2, us2, hl2, Rd.of_own ho2, fun i h h' => SymsAt.of_own (hs2 i h h')⟩, hbw2.trans ((hb28.mono hbw2.size).trans (hbB2.mono hBm1)), Go.lt_of_block hT9⟩
          · rcases (show i = 0 ∨ i = 1 ∨ i = 2 from by omega) with rfl | rfl | rfl
            · exact ⟨_, A, by simp [World.cell?, hT9], hA9⟩
            · exact ⟨_, _, by simp [World.cell?, hT9], hO9⟩
            · exact ⟨_, _, by simp [World.cell?, hT9], hL9⟩
          · refine edits_spared hul (HRE2.out.below hb28) (fun i h h' => (HSE2.out i h h').below hb28) hk2 hsp2 (fun x hx => ?_)
            rcases huk2 with rfl | h
            · exact FarFrom.none x
            · exact RelL.far hrel1 HCOH.out HLW.out h hx
          · refine edits_spared hl1 hr8 (fun i h h' => SymsAt.of_own (hs8 i h h')) hk2 hsp2 (fun x hx => ?_)
            rcases huk2 with rfl | h
            · exact FarFrom.none x
            · exact hcoh1'.far h hx)
        have hqw : ∀ z : Int, -9223372036854775808 ≤ wrap64 z ∧ wrap64 z ≤ 9223372036854775807 := fun z => by unfold wrap64; omega
        obtain ⟨hq1, hq2⟩ := hqw (how.tdiv 6)
        clear hs8 hr8 hcoh1' hlow1 hTB hodd8 hlong8 hb28
        go_upto_region 9 with (first
          | (go_at_call 12; refine (HB2.out _ (by first | exact hq1 | omega) (by first | exact hq2 | omega)).mono ?_; rintro e w9 ⟨v9, rfl, hto2⟩; obtain ⟨hT9, hE9, hO9, ⟨l2, hN9⟩, hb9, htb9⟩ := HFIN.out _ _ hto2; clear hto2; obtain ⟨a9, c9, rfl, _, _⟩ := hN9.form)
          | fail)
        clear HB2 HFIN HVA HRE2 HSE2 hbB1 hrel1 hb26 hb5 hb6 hodd hs1 ho1
        have hbA : Below w9.heap.size w9 (w9.alloc (.cells #[.slice ae es.length ce, .slice ao l1.length co, .slice a9 l2.length c9, .slice none 0 0] 24)) := (Below.refl _ _).alloc (Nat.le_refl _) _
        have HTA : Hid (∀ i, i < 3 → ∃ x lx, (w9.alloc (.cells #[.slice ae es.length ce, .slice ao l1.length co, .slice a9 l2.length c9, .slice none 0 0] 24)).cell? ⟨tb, i, none⟩ = some x ∧ SymsAt (w9.alloc (.cells #[.slice ae es.length ce, .slice ao l1.length co, .slice a9 l2.length c9, .slice none 0 0] 24)) x lx) := hidep (fun i hi => by
          obtain ⟨x, lx, h1, h2⟩ := hT9 i hi
          exact ⟨x, lx, (hbA.cell (p := ⟨tb, i, none⟩) htb9).trans h1, h2.below hbA⟩)
        have HEA : Hid (∀ j, j < 4 → ∃ y ly, (w9.alloc (.cells #[.slice ae es.length ce, .slice ao l1.length co, .slice a9 l2.length c9, .slice none 0 0] 24)).cell? ⟨w9.heap.size, j, none⟩ = some y ∧ EditsAt (w9.alloc (.cells #[.slice ae es.length ce, .slice ao l1.length co, .slice a9 l2.length c9, .slice none 0 0] 24)) y ly) := hidep (fun j hj => by
          rcases (show j = 0 ∨ j = 1 ∨ j = 2 ∨ j = 3 from by omega) with rfl | rfl | rfl | rfl
          · exact ⟨_, _, by simp [World.cell?_alloc_new], hE9.below hbA⟩
          · exact ⟨_, _, by simp [World.cell?_alloc_new], hO9.below hbA⟩
          · exact ⟨_, _, by simp [World.cell?_alloc_new], hN9.below hbA⟩
          · exact ⟨_, _, by simp [World.cell?_alloc_new], EditsAt.nil _⟩)
        have hbwA := hb9.trans (hbA.mono hb9.size)
        have htbA : tb < (w9.alloc (.cells #[.slice ae es.length ce, .slice ao l1.length co, .slice a9 l2.length c9, .slice none 0 0] 24)).heap.size := Nat.lt_of_lt_of_le htb9 hbA.size
        have hebA : w9.heap.size < (w9.alloc (.cells #[.slice ae es.length ce, .slice ao l1.length co, .slice a9 l2.length c9, .slice none 0 0] 24)).heap.size := by simp
        obtain ⟨eb, heb⟩ : ∃ eb, eb = w9.heap.size := ⟨_, rfl⟩
        rw [← heb] at HEA hebA
        rw [← heb]
        clear heb
        clear hbA hT9 hE9 hO9 hN9 hb9 htb9
        generalize w9.alloc (.cells #[.slice ae es.length ce, .slice ao l1.length co, .slice a9 l2.length c9, .slice none 0 0] 24) = wA at *
        go_wp2
        go_loopg [19] 3 (fun g i wr => ∃ i' : Nat, i' ≤ 3 ∧ 3 - i' = g ∧ i = .int .i64 i' ∧ Below wA.heap.size wA wr)
        case atStart => exact ⟨0, by omega, rfl, rfl, Below.refl _ _⟩
        case round =>
          obtain ⟨i', hi', hg1, rfl, hbr⟩ := hrel
          have HG1 := hidep hg1
          clear hg1
          obtain ⟨wo, rfl⟩ : ∃ wo : World, wo = wr := ⟨_, rfl⟩
          by_cases hi3 : i' < 3
          · obtain ⟨x, lx, hcx, hxs⟩ := HTA.out i' hi3
            have hI1 : (0 : Int) ≤ (i' : Int) := by omega
            have hI2 : (i' : Int) < 3 := by omega
            go_wp2
            go_loopg [20] 4 (fun g j wl => ∃ j' : Nat, j' ≤ 4 ∧ 4 - j' = g ∧ j = .int .i64 j' ∧ Below wA.heap.size wA wl)
            case atStart => exact ⟨0, by omega, rfl, rfl, hbr⟩
            case round =>
              obtain ⟨j', hj', hg2, rfl, hbl⟩ := hrel
              have HG2 := hidep hg2
              clear hg2
              by_cases hj4 : j' < 4
              · obtain ⟨y, ly, hcy, hys⟩ := HEA.out j' hj4
                have hJ1 : (0 : Int) ≤ (j' : Int) := by omega
                have hJ2 : (j' : Int) < 4 := by omega
                have hk0 := (hbl.cell (p := ⟨tb, i', none⟩) htbA).trans hcx
                have hk1 := (hbl.cell (p := ⟨eb, j', none⟩) hebA).trans hcy
                have HAP : Hid (∀ W, Below wA.heap.size wA W → Calls Try.prog 13 #[x, y] W fun e w' => ∃ r, e = .returned (.tuple #[r, .int .i64 (applyZ lx ly).2]) ∧ SymsAt w' r (applyZ lx ly).1 ∧ Below W.heap.size W w' ∧ Below wA.heap.size wA w') := hidep (fun W hW =>
                  (apply_any x y lx ly W (hxs.below hW) (hys.below hW)).mono (fun e w' ⟨r, he, ho, hb⟩ => ⟨r, he, SymsAt.of_own ho, hb, hW.trans (hb.mono hW.size)⟩))
                have HAQ : Hid (∀ W, Below wA.heap.size wA W → Calls Try.prog 14 #[x, y] W fun e w' => ∃ r, e = .returned (.tuple #[r, .int .i64 (applyZ lx ly).2]) ∧ SymsAt w' r (applyZ lx ly).1 ∧ Below W.heap.size W w' ∧ Below wA.heap.size wA w') := hidep (fun W hW =>
                  (apply33_any x y lx ly W (hxs.below hW) (hys.below hW)).mono (fun e w' ⟨r, he, ho, hb⟩ => ⟨r, he, SymsAt.of_own ho, hb, hW.trans (hb.mono hW.size)⟩))
                clear hxs hys
                generalize applyZ lx ly = ZZ at *
                obtain ⟨Z1, Z2⟩ := ZZ
                simp only at HAP HAQ
                have hk : wr.cell? ⟨tb, i', none⟩ = some x ∧ wr.cell? ⟨eb, j', none⟩ = some y := ⟨hk0, hk1⟩
                have HKK := hidep hk
                clear hk
                have hm := True.intro
                go_upto_region 15 with (fail)
                go_region_held3 (fun w' => w'.cell? ⟨tb, i', none⟩ = some x ∧ w'.cell? ⟨eb, j', none⟩ = some y)
                  (first | exact HKK.out | exact hm | go_keep)
                  (first
                    | (go_at_call 13; refine (HAP.out _ (by first | exact hbl | exact hbl.drew)).mono ?_; rintro e w10 ⟨r10, rfl, hr10, hb10, hbA10⟩; have hm : w10.cell? ⟨tb, i', none⟩ = some x ∧ w10.cell? ⟨eb, j', none⟩ = some y := ⟨(hbA10.cell (p := ⟨tb, i', none⟩) htbA).trans hcx, (hbA10.cell (p := ⟨eb, j', none⟩) hebA).trans hcy⟩; dsimp only)
                    | fail)
                have HM := hidep hm
                clear hm HKK hk0 hk1
                have hm := True.intro
                go_upto_region 16 with (fail)
                go_region_held3 (fun w' => w'.cell? ⟨tb, i', none⟩ = some x ∧ w'.cell? ⟨eb, j', none⟩ = some y)
                  (first | exact HM.out | exact hm | go_keep)
                  (first
                    | (go_at_call 14; refine (HAQ.out _ (by first | exact hbA10 | exact hbA10.drew)).mono ?_; rintro e w11 ⟨r11, rfl, hr11, hb11, hbA11⟩; have hm : w11.cell? ⟨tb, i', none⟩ = some x ∧ w11.cell? ⟨eb, j', none⟩ = some y := ⟨(hbA11.cell (p := ⟨tb, i', none⟩) htbA).trans hcx, (hbA11.cell (p := ⟨eb, j', none⟩) hebA).trans hcy⟩; dsimp only)
                    | fail)
                have hr10b : SymsAt w11 r10 Z1 := hr10.below ⟨hb11.os, hb11.tape, hb11.output, hb11.size, hb11.block⟩
                go_wp2_with (first
                  | (go_at_call 15; refine (sameSyms_any _ _ Z1 Z1 _ hr10b hr11).mono ?_; rintro e w12 ⟨rfl, n12, rfl⟩; rw [decide_eq_true (rfl : Z1 = Z1)])
                  | fail)
                go_roundg (4 - (j' + 1))
                case measure => have := HG2.out; omega
                case rel => exact ⟨j' + 1, by omega, rfl, by go_num, below_drewN hbA11 _⟩
              · have hJ2 : (4 : Int) ≤ (j' : Int) := by omega
                go_wp2
                go_roundg (3 - (i' + 1))
                case measure => have := HG1.out; omega
                case rel => exact ⟨i' + 1, by omega, rfl, by go_num, hbl⟩
          · have hI2 : (3 : Int) ≤ (i' : Int) := by omega
            go_wp2_with (first
              | (go_at_call 11; refine (lives_any _).mono ?_; rintro e wn ⟨rfl, hX⟩)
              | fail)
            go_ret
            exact ⟨rfl, (hbwA.trans (hbr.mono hbwA.size)).trans (hX.mono (hbwA.trans (hbr.mono hbwA.size)).size)⟩
end Go.Proofs.Ythhjnafhpmgceaa
