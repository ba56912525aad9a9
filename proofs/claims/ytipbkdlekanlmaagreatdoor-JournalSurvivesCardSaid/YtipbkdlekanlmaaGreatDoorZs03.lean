/- Journal: the walk of the law JournalSurvives. -/
import Derived.Test.YtipbkdlekanlmaaGreatDoorZs01
import Derived.Test.YtipbkdlekanlmaaGreatDoorZs02
namespace Go.Proofs.YtipbkdlekanlmaaGreatDoor
open Go.RowKit Go.Lab Go.Disk Go.Jn
attribute [local go_sem] Oper.semAt_some
set_option maxRecDepth 100000
theorem range_map130 (f : Nat → Value) : (List.range 130).map f = [f 0, f 1, f 2, f 3, f 4, f 5, f 6, f 7, f 8, f 9, f 10, f 11, f 12, f 13, f 14, f 15, f 16, f 17, f 18, f 19, f 20, f 21, f 22, f 23, f 24, f 25, f 26, f 27, f 28, f 29, f 30, f 31, f 32, f 33, f 34, f 35, f 36, f 37, f 38, f 39, f 40, f 41, f 42, f 43, f 44, f 45, f 46, f 47, f 48, f 49, f 50, f 51, f 52, f 53, f 54, f 55, f 56, f 57, f 58, f 59, f 60, f 61, f 62, f 63, f 64, f 65, f 66, f 67, f 68, f 69, f 70, f 71, f 72, f 73, f 74, f 75, f 76, f 77, f 78, f 79, f 80, f 81, f 82, f 83, f 84, f 85, f 86, f 87, f 88, f 89, f 90, f 91, f 92, f 93, f 94, f 95, f 96, f 97, f 98, f 99, f 100, f 101, f 102, f 103, f 104, f 105, f 106, f 107, f 108, f 109, f 110, f 111, f 112, f 113, f 114, f 115, f 116, f 117, f 118, f 119, f 120, f 121, f 122, f 123, f 124, f 125, f 126, f 127, f 128, f 129] := rfl
theorem frame130 (t : Array Value) (ds : List Deferred) (h : t.size = 130) : ({ tmps := t, defers := ds } : Act) = { tmps := #[slot t 0, slot t 1, slot t 2, slot t 3, slot t 4, slot t 5, slot t 6, slot t 7, slot t 8, slot t 9, slot t 10, slot t 11, slot t 12, slot t 13, slot t 14, slot t 15, slot t 16, slot t 17, slot t 18, slot t 19, slot t 20, slot t 21, slot t 22, slot t 23, slot t 24, slot t 25, slot t 26, slot t 27, slot t 28, slot t 29, slot t 30, slot t 31, slot t 32, slot t 33, slot t 34, slot t 35, slot t 36, slot t 37, slot t 38, slot t 39, slot t 40, slot t 41, slot t 42, slot t 43, slot t 44, slot t 45, slot t 46, slot t 47, slot t 48, slot t 49, slot t 50, slot t 51, slot t 52, slot t 53, slot t 54, slot t 55, slot t 56, slot t 57, slot t 58, slot t 59, slot t 60, slot t 61, slot t 62, slot t 63, slot t 64, slot t 65, slot t 66, slot t 67, slot t 68, slot t 69, slot t 70, slot t 71, slot t 72, slot t 73, slot t 74, slot t 75, slot t 76, slot t 77, slot t 78, slot t 79, slot t 80, slot t 81, slot t 82, slot t 83, slot t 84, slot t 85, slot t 86, slot t 87, slot t 88, slot t 89, slot t 90, slot t 91, slot t 92, slot t 93, slot t 94, slot t 95, slot t 96, slot t 97, slot t 98, slot t 99, slot t 100, slot t 101, slot t 102, slot t 103, slot t 104, slot t 105, slot t 106, slot t 107, slot t 108, slot t 109, slot t 110, slot t 111, slot t 112, slot t 113, slot t 114, slot t 115, slot t 116, slot t 117, slot t 118, slot t 119, slot t 120, slot t 121, slot t 122, slot t 123, slot t 124, slot t 125, slot t 126, slot t 127, slot t 128, slot t 129], defers := ds } := by
  have e : t = ((List.range 130).map (slot t)).toArray := by
    apply Array.ext
    · simp [h]
    · intro i h1 h2
      simp [slot, Array.getD, h1]
  rw [range_map130] at e
  exact congrArg (fun x => ({ tmps := x, defers := ds } : Act)) e
theorem str_ones (l : List ByteArray) : ∀ u ∈ strL l, u.oneCell' = true := by
  intro u hu
  simp only [strL, List.mem_map] at hu
  obtain ⟨_, _, rfl⟩ := hu
  rfl
theorem strs_snocJ {W : World} {B : Nat} {v : Value} {T : List ByteArray} {x : ByteArray} (h : W.ownsRow B 9 1 v (T.length + 1) (strL T ++ [.string x])) : StrsAt W v (T ++ [x]) := by
  have h2 := (Rd.of_own h).mono (T' := fun _ => True) (fun _ _ => trivial)
  unfold StrsAt
  rw [List.length_append]
  show Rd W (fun _ => True) 1 v (T.length + 1) (strL (T ++ [x]))
  rw [strL_snoc]
  exact h2
/-- Behind the question whether the disk is genuine. -/
def SvM (Z : World) (E q : Nat) (tv : Value) (re : Int) (gb : Bool) (a : Act) (W : World) : Prop :=
  a.tmps.size = 130 ∧ a.defers = [] ∧ slot a.tmps 7 = .pointer (some ⟨E, 0, none⟩) ∧ slot a.tmps 11 = .pointer (some ⟨q, 0, none⟩) ∧ slot a.tmps 12 = tv ∧ slot a.tmps 17 = .int .i64 re ∧ slot a.tmps 93 = .bool (!gb) ∧ Below Z.heap.size Z W
set_option maxHeartbeats 2000000 in
theorem survives_any (sv pv iv : Value) (n : Int) (L : List StepZ) (o : StepZ) (tr : Int) (ps : List Int) (w : World) (hn : -9223372036854775808 ≤ n ∧ n ≤ 9223372036854775807) (hL : StepsAt w sv L) (ho : StepV w pv o) (htr : 0 ≤ tr ∧ tr < 256) (hps : IntsAt w iv ps)
    (hk : w.rangeAt 2 0 (u32C ks0)) (hkr : w.rangeAt 0 0 (u32C ks0)) :
    Calls Tryz.prog 5 #[.int .i64 n, sv, pv, .int .u8 tr, iv] w fun e w' => e = .returned (.bool true) ∧ Below w.heap.size w w' := by
  have HK := hidep (fun Y (hY : Below w.heap.size w Y) => And.intro (hk.below hY) (hkr.below hY))
  have HS := hidep (fun Y (hY : Below w.heap.size w Y) => sanity_any Y (HK.out Y hY).1)
  clear hk hkr
  obtain ⟨sa, sc, rfl, hsl, hsc⟩ := hL.form
  obtain ⟨ia, ic, rfl, hil, hic⟩ := hps.1.form
  unfold maxLen at hsc hic
  obtain ⟨u, rfl, hpk, hok⟩ := ho
  obtain ⟨pa, pc, rfl, _, _⟩ := hpk.1.form
  have HL := hidep hL
  have HP := hidep (fun Y (hY : Below w.heap.size w Y) => hps.below hY)
  obtain ⟨k, hkd⟩ : ∃ k, k = L.length := ⟨_, rfl⟩
  obtain ⟨m, hmd⟩ : ∃ m, m = ps.length := ⟨_, rfl⟩
  rw [← hkd] at hsl ⊢
  rw [← hmd] at hil HP ⊢
  have HKD := hidep hkd
  obtain ⟨kd, ii, bt, sz, fl, pks⟩ := o
  simp only at hpk ⊢
  have hfl := hok.2.2.2.2
  simp only at hfl
  obtain ⟨pl, hpl⟩ : ∃ pl, pl = pks.length := ⟨_, rfl⟩
  rw [← hpl]
  have HTX := hidep (fun Y => textR_any kd ii bt sz fl pa pl pc Y hfl)
  obtain ⟨tx, htx⟩ : ∃ tx, tx = stepText sz fl := ⟨_, rfl⟩
  have htxs := text_size sz fl
  rw [← htx] at HTX htxs
  clear hpk hL hps hpl hmd hkd htx hok
  obtain ⟨cs, hcs⟩ : ∃ cs, cs = (stepC ⟨kd, ii, bt, sz, fl, pks⟩ (.slice pa pl pc)).toArray := ⟨_, rfl⟩
  have hcs2' : #[.int .i64 kd, .int .i64 ii, .int .i64 bt, .int .i64 sz, .int .u8 fl, .slice pa pl pc] = (stepC ⟨kd, ii, bt, sz, fl, pks⟩ (.slice pa pl pc)).toArray := rfl
  have hcs2 : (stepC ⟨kd, ii, bt, sz, fl, pks⟩ (.slice pa pl pc)).toArray = #[.int .i64 kd, .int .i64 ii, .int .i64 bt, .int .i64 sz, .int .u8 fl, .slice pa pl pc] := rfl
  rw [hcs2]
  rw [hcs2] at hcs
  have HCS := hidep hcs
  clear hcs2 hcs
  by_cases h1 : 200 < n
  · have g1 : n > 200 := h1
    go_enter Tryz.func5, Tryz.ntmps5
    go_wp2_with (first
      | (go_at_call 7; refine (HS.out _ ((Below.refl _ _).alloc (Nat.le_refl _) _)).mono ?_; rintro e w1 ⟨rfl, hb1⟩)
      | fail)
    go_ret
    exact ⟨rfl, ((Below.refl _ _).alloc (Nat.le_refl _) _).trans (hb1.mono (by simp))⟩
  have g1 : ¬ n > 200 := h1
  by_cases h2 : 12 < k
  · have g2 : (k : Int) > 12 := by omega
    go_enter Tryz.func5, Tryz.ntmps5
    go_wp2_with (first
      | (go_at_call 7; refine (HS.out _ ((Below.refl _ _).alloc (Nat.le_refl _) _)).mono ?_; rintro e w1 ⟨rfl, hb1⟩)
      | fail)
    go_ret
    exact ⟨rfl, ((Below.refl _ _).alloc (Nat.le_refl _) _).trans (hb1.mono (by simp))⟩
  have g2 : ¬ (k : Int) > 12 := by omega
  by_cases h3 : 200 < m
  · have g3 : (m : Int) > 200 := by omega
    go_enter Tryz.func5, Tryz.ntmps5
    go_wp2_with (first
      | (go_at_call 7; refine (HS.out _ ((Below.refl _ _).alloc (Nat.le_refl _) _)).mono ?_; rintro e w1 ⟨rfl, hb1⟩)
      | fail)
    go_ret
    exact ⟨rfl, ((Below.refl _ _).alloc (Nat.le_refl _) _).trans (hb1.mono (by simp))⟩
  have g3 : ¬ (m : Int) > 200 := by omega
  by_cases h4 : n < 1
  · have HFB := hidep (fun Y => filled_bad n (.slice sa k sc) Y h4)
    have g4 : n < 1 := h4
    clear h1 h2 h3 h4
    go_enter Tryz.func5, Tryz.ntmps5
    go_wp2_with (first
      | (go_at_call 15; refine (HFB.out _).mono ?_; rintro e w1 ⟨rfl, rfl⟩)
      | (go_at_call 7; refine (HS.out _ ((Below.refl _ _).alloc (Nat.le_refl _) _)).mono ?_; rintro e w1 ⟨rfl, hb1⟩)
      | fail)
    go_ret
    exact ⟨rfl, ((Below.refl _ _).alloc (Nat.le_refl _) _).trans (hb1.mono (by simp))⟩
  obtain ⟨n, rfl⟩ : ∃ N : Nat, n = (N : Int) := ⟨n.toNat, by omega⟩
  have hn1 : 1 ≤ n ∧ n ≤ 200 := by omega
  have hk12 : k ≤ 12 := by omega
  have HFA := hidep (fun Y (hY : Below w.heap.size w Y) => filled_any n (.slice sa k sc) L Y hn1 (by rw [HKD.out]; exact HL.out.below hY) (by rw [← HKD.out]; exact hk12) (HK.out _ hY).1)
  clear h1 h2 h3 h4 hn
  go_enter Tryz.func5, Tryz.ntmps5
  go_upto_region 1 with (fail)
  obtain ⟨E, hE⟩ : ∃ E, E = w.heap.size := ⟨_, rfl⟩
  refine wp_abs (fun X => X.heap[E]? = some (.cells cs 56) ∧ Below w.heap.size w X ∧ E < X.heap.size) ⟨by rw [hE, HCS.out]; exact heap_alloc_new _ _, (Below.refl _ _).alloc (Nat.le_refl _) _, by rw [hE]; simp⟩ ?_
  rintro Wb ⟨hqE, hbb, hEb⟩
  rw [← hE]
  clear hE
  go_upto_region 6 with (first
    | (go_at_call 15; refine (HFA.out _ hbb).mono ?_; rintro e w1 ⟨q, tv, rfl, hfr⟩)
    | fail)
  obtain ⟨j, D, segs, dhi, hsi, hsl12, hjo, hDl, hsz, hd1, hrt1, hb1⟩ := hfr
  clear HFA g1 g2 g3
  have HSI := hidep (And.intro hsi (And.intro hsl12 (And.intro hjo (And.intro hDl hsz))))
  have hlw1 : Wb.heap.size ≤ dhi ∧ dhi ≤ w1.heap.size := by
    obtain ⟨b, g, mb, wb, c, l, P, W, hp, h⟩ := hd1
    have h1 := h.hb
    exact ⟨by omega, h.hi⟩
  have hop := open_any _ D w1 _ _ hd1 hsi.inv.fine.1 (HK.out _ (hbb.trans (hb1.mono hbb.size))).1
  rw [open_sinv hsi] at hop
  have HOP := hidep hop
  have HD1 := hidep (And.intro hd1 (And.intro hrt1 (And.intro hb1 (below_push hb1 hqE))))
  clear hop hd1 hrt1 hb1 hsi hsl12 hjo hDl hsz hqE
  go_upto_region 7 with (first
    | (go_at_call 12; refine HOP.out.mono ?_; rintro e w2 ⟨pj, rfl, hj2, hb2⟩; obtain ⟨jb, hpj⟩ := jat_ptrF hj2; subst hpj)
    | fail)
  have hF2 : FiS (fun x => w1.heap.size ≤ x ∧ x < w2.heap.size) w1.heap.size Wb.heap.size dhi E cs (.pointer (some ⟨jb, 0, none⟩)) (.pointer (some ⟨q, 0, none⟩)) tv j D j.texts Wb w2 :=
    ⟨hj2.on, HD1.out.1.below hb2, own_below HD1.out.2.1 hb2, fun x hx h => by have := (HD1.out.2.1.lt x hx).2; omega, fun x hx => ⟨by omega, hx.2⟩, below_push hb2 HD1.out.2.2.2, ⟨hlw1.1, Nat.le_trans hlw1.2 hb2.size⟩, HD1.out.2.2.1.trans (hb2.mono HD1.out.2.2.1.size)⟩
  have HF2 := hidep hF2
  obtain ⟨T0, hT0⟩ : ∃ T0, T0 = j.texts := ⟨_, rfl⟩
  have HT0 := hidep hT0
  have HTO := hidep (fun Y (hY : Below w2.heap.size w2 Y) => show StrsAt Y tv T0 from by
    rw [hT0]
    exact ((Rd.of_own (HF2.out.below hY).rt).mono (fun _ _ => trivial)))
  have HT1 := hidep (fun Y (hY : Below w2.heap.size w2 Y) => show Calls Tryz.prog 21 #[.pointer (some ⟨jb, 0, none⟩)] Y fun e w' => ∃ v, e = .returned v ∧ StrsAt w' v T0 ∧ Below Y.heap.size Y w' from by
    rw [hT0]
    exact (texts_any _ _ j Y _ (HF2.out.below hY).jn.at).mono fun e w' ⟨v, he, ho, hb⟩ => ⟨v, he, (Rd.of_own ho).mono (fun _ _ => trivial), hb⟩)
  have HDG := hidep (fun Y (hY : Below w2.heap.size w2 Y) => show Calls Tryz.prog 24 #[.pointer (some ⟨jb, 0, none⟩)] Y fun e w' => ∃ a c, e = .returned (.slice a 0 c) ∧ Below Y.heap.size Y w' from by
    have h := damaged_any _ _ j Y _ (HF2.out.below hY).jn.at ⟨HSI.out.2.2.1.n0, by have := HSI.out.2.2.1.n1; omega⟩ (fun x hx => by have := HSI.out.2.2.1.nr x hx; omega)
    rw [sinv_damaged HSI.out.1] at h
    refine h.mono fun e w' ⟨v, he, ho, hb⟩ => ?_
    obtain ⟨a, c, hv, _, _⟩ := (Rd.of_own ho).form
    exact ⟨a, c, by rw [he, hv]; rfl, hb⟩)
  have hkk := Below.refl w2.heap.size w2
  clear hF2 hj2 hb2 HOP hT0
  go_upto_region 9 with (first
    | (go_at_call 21; refine (HT1.out _ hkk).mono ?_; rintro e w3 ⟨v3, rfl, hv3, hb3⟩; have hkk := hkk.trans (hb3.mono hkk.size))
    | (go_at_call 20; refine (sameTexts_t _ _ T0 _ hv3 (HTO.out _ hkk)).mono ?_; rintro e w4 ⟨rfl, hb4⟩; have hkk := hkk.trans (hb4.mono hkk.size))
    | (go_at_call 24; refine (HDG.out _ hkk).mono ?_; rintro e w5 ⟨da, dc, rfl, hb5⟩; have hkk := hkk.trans (hb5.mono hkk.size))
    | fail)
  have HF3 := hidep (HF2.out.below hkk)
  clear HT1 HDG HTO HF2 hkk hv3 hb3 hb4 hb5
  have htri : -9223372036854775808 ≤ tr ∧ tr ≤ 9223372036854775807 := by omega
  have HDK := hidep (trip_any (.pointer (some ⟨q, 0, none⟩)) D tr _ Wb.heap.size dhi HF3.out.dk htri)
  go_upto_region 10 with (first
    | (go_at_call 25; refine HDK.out.mono ?_; rintro e w6 ⟨rfl, hd6, hT6⟩)
    | fail)
  have HF6 := hidep (HF3.out.turn hd6 hT6 (.inl hEb))
  obtain ⟨c0, c1, c2, c3, c4, c5⟩ := step_cells (o := ⟨kd, ii, bt, sz, fl, pks⟩) (u := .slice pa pl pc) (by rw [← hcs2', ← HCS.out]; exact HF6.out.box)
  have HSZ := hidep (show ∀ s ∈ T0, s.size ≤ 8100 from by rw [HT0.out]; exact HSI.out.2.2.2.2)
  have hlw2 := hlw1.2
  have hjt := HSI.out.2.2.1.tl
  have HAP := hidep (fun Y (hY : Below w6.heap.size w6 Y) => append_any (.pointer (some ⟨jb, 0, none⟩)) (.pointer (some ⟨q, 0, none⟩)) j (tripD D tr) tx Y w1.heap.size Wb.heap.size dhi _ (HF6.out.below hY).jn (HF6.out.below hY).dk hlw2 (by omega) ⟨HSI.out.2.2.1.s0, by have := HSI.out.2.2.1.s1; omega⟩ ⟨HSI.out.2.2.1.n0, by have := HSI.out.2.2.1.n1; omega⟩ ⟨by have := HSI.out.2.2.1.nl; omega, by omega⟩ (HK.out _ (hbb.trans ((HF6.out.below hY).bel.mono hbb.size))).1)
  have hsv := survive HSI.out.1 (by have := HSI.out.2.1; omega) tx tr ps
  rw [← HT0.out] at hsv hjt
  obtain ⟨r, hr⟩ : ∃ r, r = appendZ j (tripD D tr) tx := ⟨_, rfl⟩
  rw [← hr] at HAP hsv
  clear hr
  obtain ⟨rn, re, j2, D2⟩ := r
  simp only at HAP hsv
  have HSV := hidep hsv
  clear hsv hd6 hT6 HDK
  go_upto_region 11 with (first
    | (go_at_call 27; refine (HTX.out _).mono ?_; rintro e w7 ⟨rfl, hb7⟩)
    | (go_at_call 26; refine (HAP.out _ hb7).mono ?_; rintro e w8 ⟨rfl, hj8, hd8, hT8⟩)
    | fail)
  have HF8 := hidep ((HF6.out.below hb7).step hj8 hd8 hT8 (.inl hEb) (fun h => by have := h.1; omega))
  clear hj8 hd8 hT8 hb7 HAP HF6 c0 c1 c2 c3 c4 c5
  go_upto_region 12 with (first
    | (go_at_call 28; refine (mount_any _ _ ps D2 w8 _ _ HF8.out.dk (fun Y hY => HP.out Y (hbb.trans ((HF8.out.bel.trans (hY.below (Nat.le_refl _) HF8.out.bel.size)).mono hbb.size)))).mono ?_; rintro e Z ⟨rfl, hd9, hT9⟩)
    | fail)
  obtain ⟨D3, hD3⟩ : ∃ D3, D3 = mountD D2 ps := ⟨_, rfl⟩
  have hoff3 : D3.off = false := by rw [hD3]; rfl
  rw [← hD3] at hd9 HSV
  have HFZ := hidep (HF8.out.turn hd9 hT9 (.inl hEb))
  rw [← HT0.out] at HFZ
  have hok3 := hidep hd9.ok
  clear hd9 hT9 HF8 hD3 HT0 htri
  obtain ⟨ta, tc, rfl, htl, htc⟩ := (Rd.of_own HFZ.out.rt).form
  refine wp_cutA 130 (fun tm ds => ds = [] ∧ slot tm 7 = .pointer (some ⟨E, 0, none⟩) ∧ slot tm 11 = .pointer (some ⟨q, 0, none⟩) ∧ slot tm 12 = .slice ta T0.length tc ∧ slot tm 17 = .int .i64 re) (by kernel_rfl) (by exact ⟨by kernel_rfl, by kernel_rfl, by kernel_rfl, by kernel_rfl, by kernel_rfl⟩) ?_
  rintro tA dA h130 ⟨rfl, e7, e11, e12, e17⟩
  rw [frame130 tA [] h130, e7, e11, e12, e17]
  clear h130 e7 e11 e12 e17
  have HIM := hidep (fun Y (hY : Below Z.heap.size Z Y) => image_any (.pointer (some ⟨q, 0, none⟩)) D3 Y _ _ (HFZ.out.below hY).dk)
  have HTO := hidep (fun Y (hY : Below Z.heap.size Z Y) => show StrsAt Y (.slice ta T0.length tc) T0 from (Rd.of_own (HFZ.out.below hY).rt).mono (fun _ _ => trivial))
  have HBX := hidep (fun Y (hY : Below Z.heap.size Z Y) => show Y.heap[E]? = some (.cells (stepC ⟨kd, ii, bt, sz, fl, pks⟩ (.slice pa pl pc)).toArray 56) from by rw [← hcs2', ← HCS.out]; exact (HFZ.out.below hY).box)
  have HKZ := hidep (fun Y (hY : Below Z.heap.size Z Y) => HK.out Y (hbb.trans ((HFZ.out.below hY).bel.mono hbb.size)))
  have hTz : ∀ s ∈ T0 ++ [tx], s.size ≤ 9000 := by
    intro s hs
    rcases List.mem_append.1 hs with hs | hs
    · have := HSZ.out s hs; omega
    · rw [List.mem_singleton.1 hs]; omega
  have HTZ := hidep hTz
  obtain ⟨gb, hgb⟩ : ∃ gb, gb = genAll (T0 ++ [tx]) (imageZ D3) := ⟨_, rfl⟩
  have HGB := hidep hgb
  clear hTz hgb
  refine wp_join (SvM Z E q (.slice ta T0.length tc) re gb) ?gen ?_
  case gen =>
    intro K' hMK
    refine wp_region_noPanic (wp_region_held_drew (S := (fun Y => Below Z.heap.size Z Y)) (by kernel_rfl) ?hS5r12n0 (fun hHeld => ?hR5r12n0))
    case hS5r12n0 => ((try dsimp only); (exact (Below.refl _ _).drew))
    refine wpAnyH_take (i := 0) (v := ?v5r12n0q1) rfl (by kernel_rfl) (by kernel_rfl) (by kernel_rfl) (fun _ _ _ h => h) (Or.inl ⟨by kernel_rfl, ?hy5r12n0q1⟩) (by assumption) ?hr5r12n0q1
    case hy5r12n0q1 => (intro w hSw; (try dsimp only at hSw); (obtain ⟨s0, s1, s2, s3, s4, s5⟩ := step_cells (HBX.out w hSw)); first | (go_simp; done) | (go_simp; with_reducible rfl))
    refine wpAnyH_take (i := 3) (v := ?v5r12n0q2) rfl (by kernel_rfl) (by kernel_rfl) (by kernel_rfl) (fun _ _ _ h => h) (Or.inl ⟨by kernel_rfl, ?hy5r12n0q2⟩) (by assumption) ?hr5r12n0q2
    case hy5r12n0q2 => (intro w hSw; (try dsimp only at hSw); (obtain ⟨s0, s1, s2, s3, s4, s5⟩ := step_cells (HBX.out w hSw)); first | (go_simp; done) | (go_simp; with_reducible rfl))
    refine wpAnyH_take (i := 5) (v := ?v5r12n0q3) rfl (by kernel_rfl) (by kernel_rfl) (by kernel_rfl) (fun _ _ _ h => h) (Or.inl ⟨by kernel_rfl, ?hy5r12n0q3⟩) (by assumption) ?hr5r12n0q3
    case hy5r12n0q3 => (intro w hSw; (try dsimp only at hSw); (obtain ⟨s0, s1, s2, s3, s4, s5⟩ := step_cells (HBX.out w hSw)); first | (go_simp; done) | (go_simp; with_reducible rfl))
    refine wpAnyH_ready (rs := [1, 2]) (by kernel_rfl) (by simp) (AllReadyH.cons rfl (fun K hK => ?hc5r12n0q4) (AllReadyH.cons rfl (fun K hK => ?hc5r12n0q5) AllReadyH.nil))
    case' hc5r12n0q4 =>
      go_simp
      (go_at_call 19; refine (HIM.out _ hHeld).mono ?_; rintro e w84 ⟨g84, rfl, hg84, hr84, hb84⟩; have hk := hHeld.trans (hb84.mono hHeld.size); (first | (have hl86 := own_below hl85 hb84; have hl85 := hl86; have hn85 : Z.heap.size ≠ g84 := (by have := lt_of_block h85; omega)) | skip); (try dsimp only))
      refine hK.out _ _ ?hs5r12n0q4 (fun hHeld5r12n0q4 => ?ht5r12n0q4)
      case hs5r12n0q4 => ((try dsimp only); (exact hk))
      clear hHeld hK
      have hHeld := hHeld5r12n0q4
      clear hHeld5r12n0q4
      refine wpAnyH_ready (rs := [2]) (by kernel_rfl) (by simp) (AllReadyH.cons rfl (fun K hK => ?hc5r12n0q6) AllReadyH.nil)
      go_simp
      ((first | refine intro_alloc (fun X85 hb85 h85 => ?_) | refine intro_alloc_drew (fun X85 hb85 h85 => ?_)); (first | (have hk := hHeld.trans (hb85.mono hHeld.size)) | (have hk := hb85)); (first | (have hl85 := lit_own (k := 1) h85 (show Z.heap.size ≤ w84.heap.size from hHeld.size); have hn85 : w84.heap.size ≠ g84 := (by have := hr84.lt; omega); have hr86 := RowAt.of_block hr84 (hb85.block _ hr84.lt); have hr84 := hr86) | (have hl85 := lit_own (k := 1) h85 (Nat.le_refl Z.heap.size))); (try dsimp only))
      refine hK.out _ _ ?hs5r12n0q6 (fun hHeld5r12n0q6 => ?ht5r12n0q6)
      case hs5r12n0q6 => ((try dsimp only); (exact hk))
      clear hHeld hK
      have hHeld := hHeld5r12n0q6
      clear hHeld5r12n0q6
      refine wpAnyH_ready (rs := [4]) (by kernel_rfl) (by simp) (AllReadyH.cons rfl (fun K hK => ?hc5r12n0q7) AllReadyH.nil)
      (refine step_append_rd _ rfl (.tmp 85) (.tmp 86) rfl slStrs Z.heap.size _ _ _ rfl hl85 _ _ _ _ rfl (HTO.out _ hHeld) (str_ones T0) (by unfold maxLen; omega) (by omega) hHeld.size ?_; intro v87 w87 ho87 hg87 hd87 hnl87; simp only [Nat.zero_add, List.nil_append] at ho87; have hz84 := hr84.lt; have hr86 := RowAt.of_block hr84 (hg87.block _ hr84.lt (fun e => by injection e with e; exact hn85 e.symm)); have hr84 := hr86; have hn87 : v87.ownBlock ≠ some g84 := (by rcases hd87 with h | h; (rw [h]; intro e; injection e with e; exact hn85 e); (rw [h]; intro e; injection e with e; omega)); have hk := below_own hHeld hg87 (own_blk hl85) hHeld.size; (try dsimp only))
      refine hK.out _ _ ?hs5r12n0q7 (fun hHeld5r12n0q7 => ?ht5r12n0q7)
      case hs5r12n0q7 => ((try dsimp only); (exact hk))
      clear hHeld hK
      have hHeld := hHeld5r12n0q7
      clear hHeld5r12n0q7
      refine wpAnyH_ready (rs := [6]) (by kernel_rfl) (by simp) (AllReadyH.cons rfl (fun K hK => ?hc5r12n0q8) AllReadyH.nil)
      go_simp
      (go_at_call 27; refine (HTX.out _).mono ?_; rintro e w89 ⟨rfl, hb89⟩; have hk := hHeld.trans (hb89.mono hHeld.size); have hr86 := RowAt.of_block hr84 (hb89.block _ hr84.lt); have hr84 := hr86; have ho88 := own_below ho87 hb89; have ho87 := ho88; (try dsimp only))
      refine hK.out _ _ ?hs5r12n0q8 (fun hHeld5r12n0q8 => ?ht5r12n0q8)
      case hs5r12n0q8 => ((try dsimp only); (exact hk))
      clear hHeld hK
      have hHeld := hHeld5r12n0q8
      clear hHeld5r12n0q8
      refine wpAnyH_ready (rs := [7]) (by kernel_rfl) (by simp) (AllReadyH.cons rfl (fun K hK => ?hc5r12n0q9) AllReadyH.nil)
      go_simp
      (refine intro_alloc (fun X90 hb90 h90 => ?_); have hk := hHeld.trans (hb90.mono hHeld.size); have hr86 := RowAt.of_block hr84 (hb90.block _ hr84.lt); have hr84 := hr86; have ho88 := own_below ho87 hb90; have ho87 := ho88; (try dsimp only))
      refine hK.out _ _ ?hs5r12n0q9 (fun hHeld5r12n0q9 => ?ht5r12n0q9)
      case hs5r12n0q9 => ((try dsimp only); (exact hk))
      clear hHeld hK
      have hHeld := hHeld5r12n0q9
      clear hHeld5r12n0q9
      refine wpAnyH_ready (rs := [8]) (by kernel_rfl) (by simp) (AllReadyH.cons rfl (fun K hK => ?hc5r12n0q10) AllReadyH.nil)
      (refine step_append_rd _ rfl (.tmp 87) (.tmp 90) rfl slStrs Z.heap.size _ _ _ rfl ho87 _ _ _ _ rfl (rd_lit1 h90) (by intro u hu; simp at hu; subst hu; rfl) (by unfold maxLen; omega) (by omega) hHeld.size ?_; intro v91 w91 ho91 hg91 hd91 hnl91; have hr86 := RowAt.of_block hr84 (hg91.block _ hr84.lt (fun e => hn87 e.symm)); have hr84 := hr86; have hk := below_own hHeld hg91 (own_blk ho87) hHeld.size; (try dsimp only))
      refine hK.out _ _ ?hs5r12n0q10 (fun hHeld5r12n0q10 => ?ht5r12n0q10)
      case hs5r12n0q10 => ((try dsimp only); (exact hk))
      clear hHeld hK
      have hHeld := hHeld5r12n0q10
      clear hHeld5r12n0q10
      refine wpAnyH_ready (rs := [9]) (by kernel_rfl) (by simp) (AllReadyH.cons rfl (fun K hK => ?hc5r12n0q11) AllReadyH.nil)
      go_simp
      (go_at_call 18; refine (genuine_any _ _ (imageZ D3) (T0 ++ [tx]) _ (image_strs hr84 hok3.out) (strs_snocJ ho91) (by simp; omega) HTZ.out (HKZ.out _ hHeld).2).mono ?_; rintro e w92 ⟨rfl, hb92⟩; have hk := hHeld.trans (hb92.mono hHeld.size); (try dsimp only))
      refine hK.out _ _ ?hs5r12n0q11 (fun hHeld5r12n0q11 => ?ht5r12n0q11)
      case hs5r12n0q11 => ((try dsimp only); (exact hk))
      clear hHeld hK
      have hHeld := hHeld5r12n0q11
      clear hHeld5r12n0q11
      refine wpAnyH_take (i := 10) (v := ?v5r12n0q12) rfl (by kernel_rfl) (by kernel_rfl) (by kernel_rfl) (fun _ _ _ h => h) (Or.inl ⟨by kernel_rfl, ?hy5r12n0q12⟩) (by assumption) ?hr5r12n0q12
      case hy5r12n0q12 => (intro w hSw; (try dsimp only at hSw); (obtain ⟨s0, s1, s2, s3, s4, s5⟩ := step_cells (HBX.out w hSw)); first | (go_simp; done) | (go_simp; with_reducible rfl))
      refine wpAnyH_done (by kernel_rfl) ?_ _
      clear hHeld
      refine NoPanic.normal ?_
    case' hc5r12n0q5 =>
      go_simp
      ((first | refine intro_alloc (fun X85 hb85 h85 => ?_) | refine intro_alloc_drew (fun X85 hb85 h85 => ?_)); (first | (have hk := hHeld.trans (hb85.mono hHeld.size)) | (have hk := hb85)); (first | (have hl85 := lit_own (k := 1) h85 (show Z.heap.size ≤ w84.heap.size from hHeld.size); have hn85 : w84.heap.size ≠ g84 := (by have := hr84.lt; omega); have hr86 := RowAt.of_block hr84 (hb85.block _ hr84.lt); have hr84 := hr86) | (have hl85 := lit_own (k := 1) h85 (Nat.le_refl Z.heap.size))); (try dsimp only))
      refine hK.out _ _ ?hs5r12n0q5 (fun hHeld5r12n0q5 => ?ht5r12n0q5)
      case hs5r12n0q5 => ((try dsimp only); (exact hk))
      clear hHeld hK
      have hHeld := hHeld5r12n0q5
      clear hHeld5r12n0q5
      refine wpAnyH_ready (rs := [1]) (by kernel_rfl) (by simp) (AllReadyH.cons rfl (fun K hK => ?hc5r12n0q13) AllReadyH.nil)
      go_simp
      (go_at_call 19; refine (HIM.out _ hHeld).mono ?_; rintro e w84 ⟨g84, rfl, hg84, hr84, hb84⟩; have hk := hHeld.trans (hb84.mono hHeld.size); (first | (have hl86 := own_below hl85 hb84; have hl85 := hl86; have hn85 : Z.heap.size ≠ g84 := (by have := lt_of_block h85; omega)) | skip); (try dsimp only))
      refine hK.out _ _ ?hs5r12n0q13 (fun hHeld5r12n0q13 => ?ht5r12n0q13)
      case hs5r12n0q13 => ((try dsimp only); (exact hk))
      clear hHeld hK
      have hHeld := hHeld5r12n0q13
      clear hHeld5r12n0q13
      refine wpAnyH_ready (rs := [4]) (by kernel_rfl) (by simp) (AllReadyH.cons rfl (fun K hK => ?hc5r12n0q14) AllReadyH.nil)
      (refine step_append_rd _ rfl (.tmp 85) (.tmp 86) rfl slStrs Z.heap.size _ _ _ rfl hl85 _ _ _ _ rfl (HTO.out _ hHeld) (str_ones T0) (by unfold maxLen; omega) (by omega) hHeld.size ?_; intro v87 w87 ho87 hg87 hd87 hnl87; simp only [Nat.zero_add, List.nil_append] at ho87; have hz84 := hr84.lt; have hr86 := RowAt.of_block hr84 (hg87.block _ hr84.lt (fun e => by injection e with e; exact hn85 e.symm)); have hr84 := hr86; have hn87 : v87.ownBlock ≠ some g84 := (by rcases hd87 with h | h; (rw [h]; intro e; injection e with e; exact hn85 e); (rw [h]; intro e; injection e with e; omega)); have hk := below_own hHeld hg87 (own_blk hl85) hHeld.size; (try dsimp only))
      refine hK.out _ _ ?hs5r12n0q14 (fun hHeld5r12n0q14 => ?ht5r12n0q14)
      case hs5r12n0q14 => ((try dsimp only); (exact hk))
      clear hHeld hK
      have hHeld := hHeld5r12n0q14
      clear hHeld5r12n0q14
      refine wpAnyH_ready (rs := [6]) (by kernel_rfl) (by simp) (AllReadyH.cons rfl (fun K hK => ?hc5r12n0q15) AllReadyH.nil)
      go_simp
      (go_at_call 27; refine (HTX.out _).mono ?_; rintro e w89 ⟨rfl, hb89⟩; have hk := hHeld.trans (hb89.mono hHeld.size); have hr86 := RowAt.of_block hr84 (hb89.block _ hr84.lt); have hr84 := hr86; have ho88 := own_below ho87 hb89; have ho87 := ho88; (try dsimp only))
      refine hK.out _ _ ?hs5r12n0q15 (fun hHeld5r12n0q15 => ?ht5r12n0q15)
      case hs5r12n0q15 => ((try dsimp only); (exact hk))
      clear hHeld hK
      have hHeld := hHeld5r12n0q15
      clear hHeld5r12n0q15
      refine wpAnyH_ready (rs := [7]) (by kernel_rfl) (by simp) (AllReadyH.cons rfl (fun K hK => ?hc5r12n0q16) AllReadyH.nil)
      go_simp
      (refine intro_alloc (fun X90 hb90 h90 => ?_); have hk := hHeld.trans (hb90.mono hHeld.size); have hr86 := RowAt.of_block hr84 (hb90.block _ hr84.lt); have hr84 := hr86; have ho88 := own_below ho87 hb90; have ho87 := ho88; (try dsimp only))
      refine hK.out _ _ ?hs5r12n0q16 (fun hHeld5r12n0q16 => ?ht5r12n0q16)
      case hs5r12n0q16 => ((try dsimp only); (exact hk))
      clear hHeld hK
      have hHeld := hHeld5r12n0q16
      clear hHeld5r12n0q16
      refine wpAnyH_ready (rs := [8]) (by kernel_rfl) (by simp) (AllReadyH.cons rfl (fun K hK => ?hc5r12n0q17) AllReadyH.nil)
      (refine step_append_rd _ rfl (.tmp 87) (.tmp 90) rfl slStrs Z.heap.size _ _ _ rfl ho87 _ _ _ _ rfl (rd_lit1 h90) (by intro u hu; simp at hu; subst hu; rfl) (by unfold maxLen; omega) (by omega) hHeld.size ?_; intro v91 w91 ho91 hg91 hd91 hnl91; have hr86 := RowAt.of_block hr84 (hg91.block _ hr84.lt (fun e => hn87 e.symm)); have hr84 := hr86; have hk := below_own hHeld hg91 (own_blk ho87) hHeld.size; (try dsimp only))
      refine hK.out _ _ ?hs5r12n0q17 (fun hHeld5r12n0q17 => ?ht5r12n0q17)
      case hs5r12n0q17 => ((try dsimp only); (exact hk))
      clear hHeld hK
      have hHeld := hHeld5r12n0q17
      clear hHeld5r12n0q17
      refine wpAnyH_ready (rs := [9]) (by kernel_rfl) (by simp) (AllReadyH.cons rfl (fun K hK => ?hc5r12n0q18) AllReadyH.nil)
      go_simp
      (go_at_call 18; refine (genuine_any _ _ (imageZ D3) (T0 ++ [tx]) _ (image_strs hr84 hok3.out) (strs_snocJ ho91) (by simp; omega) HTZ.out (HKZ.out _ hHeld).2).mono ?_; rintro e w92 ⟨rfl, hb92⟩; have hk := hHeld.trans (hb92.mono hHeld.size); (try dsimp only))
      refine hK.out _ _ ?hs5r12n0q18 (fun hHeld5r12n0q18 => ?ht5r12n0q18)
      case hs5r12n0q18 => ((try dsimp only); (exact hk))
      clear hHeld hK
      have hHeld := hHeld5r12n0q18
      clear hHeld5r12n0q18
      refine wpAnyH_take (i := 10) (v := ?v5r12n0q19) rfl (by kernel_rfl) (by kernel_rfl) (by kernel_rfl) (fun _ _ _ h => h) (Or.inl ⟨by kernel_rfl, ?hy5r12n0q19⟩) (by assumption) ?hr5r12n0q19
      case hy5r12n0q19 => (intro w hSw; (try dsimp only at hSw); (obtain ⟨s0, s1, s2, s3, s4, s5⟩ := step_cells (HBX.out w hSw)); first | (go_simp; done) | (go_simp; with_reducible rfl))
      refine wpAnyH_done (by kernel_rfl) ?_ _
      clear hHeld
      refine NoPanic.normal ?_
    all_goals
      (try dsimp only [Exit.inBlock, Exit.then])
      refine hMK _ _ ⟨rfl, rfl, by kernel_rfl, by kernel_rfl, by kernel_rfl, by kernel_rfl, ?_, hk⟩
      rw [HGB.out]
      kernel_rfl
  rintro ⟨tB, dB⟩ W ⟨h130, hds, e7, e11, e12, e17, e93, hbW⟩
  simp only at h130 hds e7 e11 e12 e17 e93
  subst hds
  (try dsimp only [Exit.then])
  rw [frame130 tB [] h130, e7, e11, e12, e17, e93]
  clear h130 e7 e11 e12 e17 e93
  have hww := hbb.trans ((HFZ.out.below hbW).bel.mono hbb.size)
  cases gb with
  | false =>
    have HW := hidep hww
    go_wp2_with (first
      | (go_at_call 7; refine (HS.out _ HW.out).mono ?_; rintro e w1 ⟨rfl, hb1⟩)
      | fail)
    go_ret
    exact ⟨rfl, HW.out.trans (hb1.mono HW.out.size)⟩
  | true =>
    have HSU := hidep (HSV.out HGB.out.symm)
    obtain ⟨fd, hfd⟩ : ∃ fd, fd = (openZ D3).texts := ⟨_, rfl⟩
    rw [← hfd] at HSU
    have HOP := hidep (open_any _ D3 W _ _ (HFZ.out.below hbW).dk hoff3 (HKZ.out _ hbW).1)
    have HFD := hidep hfd
    clear hfd hoff3
    go_upto_region 17 with (first
      | (go_at_call 12; refine HOP.out.mono ?_; rintro e w10 ⟨pk, rfl, hk10, hb10⟩; obtain ⟨kb, hpk⟩ := jat_ptrF hk10; subst hpk)
      | fail)
    have HFT := hidep (show Calls Tryz.prog 21 #[.pointer (some ⟨kb, 0, none⟩)] w10 fun e w' => ∃ v, e = .returned v ∧ StrsAt w' v fd ∧ Below w10.heap.size w10 w' from by
      rw [HFD.out]
      exact (texts_any _ _ _ w10 _ hk10).mono fun e w' ⟨v, he, ho, hb⟩ => ⟨v, he, (Rd.of_own ho).mono (fun _ _ => trivial), hb⟩)
    clear hk10 HOP
    go_upto_region 18 with (first
      | (go_at_call 21; refine HFT.out.mono ?_; rintro e V ⟨v20, rfl, hv20, hb20⟩)
      | fail)
    have hbV := hbW.trans ((hb10.mono hbW.size).trans (hb20.mono (Nat.le_trans hbW.size hb10.size)))
    have HV := hidep hbV
    have HV20 := hidep hv20
    have HTV := hidep (fun Y (hY : Below V.heap.size V Y) => HTO.out Y (hbV.trans (hY.mono hbV.size)))
    have HBV := hidep (fun Y (hY : Below V.heap.size V Y) => HBX.out Y (hbV.trans (hY.mono hbV.size)))
    obtain ⟨fa, fc, rfl, hfl1, hfl2⟩ := hv20.form
    obtain ⟨fn, hfn⟩ : ∃ fn, fn = fd.length := ⟨_, rfl⟩
    rw [← hfn] at HV20 ⊢
    refine wp_cutA 130 (fun tm ds => ds = [] ∧ slot tm 7 = .pointer (some ⟨E, 0, none⟩) ∧ slot tm 12 = .slice ta T0.length tc ∧ slot tm 17 = .int .i64 re ∧ slot tm 20 = .slice fa fn fc) (by kernel_rfl) (by exact ⟨by kernel_rfl, by kernel_rfl, by kernel_rfl, by kernel_rfl, by kernel_rfl⟩) ?_
    rintro tC dC h130 ⟨rfl, e7, e12, e17, e20⟩
    rw [frame130 tC [] h130, e7, e12, e17, e20]
    clear h130 e7 e12 e17 e20 hbV hv20 hb20 hb10 HFT hbW hfl1 hfl2 hfn
    go_upto_region 18 with (fail)
    refine wp_region_noPanic (wp_region_held_drew (S := (fun Y => Below V.heap.size V Y)) (by kernel_rfl) ?hS5r18n1 (fun hHeld => ?hR5r18n1))
    case hS5r18n1 => ((try dsimp only); (exact (Below.refl _ _).drew))
    refine wpAnyH_take (i := 1) (v := ?v5r18n1q1) rfl (by kernel_rfl) (by kernel_rfl) (by kernel_rfl) (fun _ _ _ h => h) (Or.inl ⟨by kernel_rfl, ?hy5r18n1q1⟩) (by assumption) ?hr5r18n1q1
    case hy5r18n1q1 => (intro w hSw; (try dsimp only at hSw); (obtain ⟨s0, s1, s2, s3, s4, s5⟩ := step_cells (HBV.out w hSw)); first | (go_simp; done) | (go_simp; with_reducible rfl))
    refine wpAnyH_take (i := 3) (v := ?v5r18n1q2) rfl (by kernel_rfl) (by kernel_rfl) (by kernel_rfl) (fun _ _ _ h => h) (Or.inl ⟨by kernel_rfl, ?hy5r18n1q2⟩) (by assumption) ?hr5r18n1q2
    case hy5r18n1q2 => (intro w hSw; (try dsimp only at hSw); (obtain ⟨s0, s1, s2, s3, s4, s5⟩ := step_cells (HBV.out w hSw)); first | (go_simp; done) | (go_simp; with_reducible rfl))
    refine wpAnyH_ready (rs := [0]) (by kernel_rfl) (by simp) (AllReadyH.cons rfl (fun K hK => ?hc5r18n1q3) AllReadyH.nil)
    go_simp
    ((first | refine intro_alloc (fun X108 hb108 h108 => ?_) | refine intro_alloc_drew (fun X108 hb108 h108 => ?_)); (first | (have hk := hHeld.trans (hb108.mono hHeld.size)) | (have hk := hb108)); have hl108 := lit_own (k := 1) h108 (Nat.le_refl V.heap.size); (try dsimp only))
    refine hK.out _ _ ?hs5r18n1q3 (fun hHeld5r18n1q3 => ?ht5r18n1q3)
    case hs5r18n1q3 => ((try dsimp only); (exact hk))
    clear hHeld hK
    have hHeld := hHeld5r18n1q3
    clear hHeld5r18n1q3
    refine wpAnyH_ready (rs := [2]) (by kernel_rfl) (by simp) (AllReadyH.cons rfl (fun K hK => ?hc5r18n1q4) AllReadyH.nil)
    (refine step_append_rd _ rfl (.tmp 108) (.tmp 109) rfl slStrs V.heap.size _ _ _ rfl hl108 _ _ _ _ rfl (HTV.out _ hHeld) (str_ones T0) (by unfold maxLen; omega) (by omega) hHeld.size ?_; intro v110 w110 ho110 hg110 hd110 hnl110; simp only [Nat.zero_add, List.nil_append] at ho110; have hk := below_own hHeld hg110 (own_blk hl108) hHeld.size; (try dsimp only))
    refine hK.out _ _ ?hs5r18n1q4 (fun hHeld5r18n1q4 => ?ht5r18n1q4)
    case hs5r18n1q4 => ((try dsimp only); (exact hk))
    clear hHeld hK
    have hHeld := hHeld5r18n1q4
    clear hHeld5r18n1q4
    refine wpAnyH_ready (rs := [4]) (by kernel_rfl) (by simp) (AllReadyH.cons rfl (fun K hK => ?hc5r18n1q5) AllReadyH.nil)
    go_simp
    (go_at_call 27; refine (HTX.out _).mono ?_; rintro e w112 ⟨rfl, hb112⟩; have hk := hHeld.trans (hb112.mono hHeld.size); have ho111 := own_below ho110 hb112; have ho110 := ho111; (try dsimp only))
    refine hK.out _ _ ?hs5r18n1q5 (fun hHeld5r18n1q5 => ?ht5r18n1q5)
    case hs5r18n1q5 => ((try dsimp only); (exact hk))
    clear hHeld hK
    have hHeld := hHeld5r18n1q5
    clear hHeld5r18n1q5
    refine wpAnyH_ready (rs := [5]) (by kernel_rfl) (by simp) (AllReadyH.cons rfl (fun K hK => ?hc5r18n1q6) AllReadyH.nil)
    go_simp
    (refine intro_alloc (fun X113 hb113 h113 => ?_); have hk := hHeld.trans (hb113.mono hHeld.size); have ho111 := own_below ho110 hb113; have ho110 := ho111; (try dsimp only))
    refine hK.out _ _ ?hs5r18n1q6 (fun hHeld5r18n1q6 => ?ht5r18n1q6)
    case hs5r18n1q6 => ((try dsimp only); (exact hk))
    clear hHeld hK
    have hHeld := hHeld5r18n1q6
    clear hHeld5r18n1q6
    refine wpAnyH_ready (rs := [6]) (by kernel_rfl) (by simp) (AllReadyH.cons rfl (fun K hK => ?hc5r18n1q7) AllReadyH.nil)
    (refine step_append_rd _ rfl (.tmp 110) (.tmp 113) rfl slStrs V.heap.size _ _ _ rfl ho110 _ _ _ _ rfl (rd_lit1 h113) (by intro u hu; simp at hu; subst hu; rfl) (by unfold maxLen; omega) (by omega) hHeld.size ?_; intro v114 w114 ho114 hg114 hd114 hnl114; obtain ⟨a114, c114, rfl, _, _⟩ := (Rd.of_own ho114).form; have hk := below_own hHeld hg114 (own_blk ho110) hHeld.size; (try dsimp only))
    refine hK.out _ _ ?hs5r18n1q7 (fun hHeld5r18n1q7 => ?ht5r18n1q7)
    case hs5r18n1q7 => ((try dsimp only); (exact hk))
    clear hHeld hK
    have hHeld := hHeld5r18n1q7
    clear hHeld5r18n1q7
    refine wpAnyH_take (i := 7) (v := ?v5r18n1q8) rfl (by kernel_rfl) (by kernel_rfl) (by kernel_rfl) (fun _ _ _ h => h) (Or.inl ⟨by kernel_rfl, ?hy5r18n1q8⟩) (by assumption) ?hr5r18n1q8
    case hy5r18n1q8 => (intro w hSw; (try dsimp only at hSw); (obtain ⟨s0, s1, s2, s3, s4, s5⟩ := step_cells (HBV.out w hSw)); first | (go_simp; done) | (go_simp; with_reducible rfl))
    refine wpAnyH_done (by kernel_rfl) ?_ _
    clear hHeld
    refine NoPanic.normal ?_
    (try dsimp only [Exit.inBlock, Exit.then])
    apply_assumption
    have hm114 := strs_snocJ ho114
    refine wp_cutA 130 (fun tm ds => ds = [] ∧ slot tm 12 = .slice ta T0.length tc ∧ slot tm 17 = .int .i64 re ∧ slot tm 20 = .slice fa fn fc ∧ slot tm 21 = .slice a114 (T0.length + 1) c114) (by kernel_rfl) (by exact ⟨by kernel_rfl, by kernel_rfl, by kernel_rfl, by kernel_rfl, by kernel_rfl⟩) ?_
    rintro tD dD h130 ⟨rfl, e12, e17, e20, e21⟩
    rw [frame130 tD [] h130, e12, e17, e20, e21]
    clear h130 e12 e17 e20 e21 ho114 hg114 hd114 hnl114
    have hbZ := HV.out.trans (hk.mono HV.out.size)
    have HW := hidep (hbb.trans ((HFZ.out.below hbZ).bel.mono hbb.size))
    have H20 := hidep (fun Y (hY : Below w114.heap.size w114 Y) => show StrsAt Y (.slice fa fn fc) fd from HV20.out.below (hk.trans (hY.mono hk.size)))
    have H21 := hidep (fun Y (hY : Below w114.heap.size w114 Y) => show StrsAt Y (.slice a114 (T0.length + 1) c114) (T0 ++ [tx]) from hm114.below hY)
    have H12 := hidep (fun Y (hY : Below w114.heap.size w114 Y) => HTV.out Y (hk.trans (hY.mono hk.size)))
    have HSA := hidep (fun Y (hY : Below w114.heap.size w114 Y) => show Calls Tryz.prog 20 #[.slice fa fn fc, .slice a114 (T0.length + 1) c114] Y fun e w' => e = .returned (.bool (decide (fd = T0 ++ [tx]))) ∧ Below Y.heap.size Y w' from
      (sameTexts1_any _ _ fd (T0 ++ [tx]) Y (H20.out Y hY) (H21.out Y hY)).mono fun e w' ⟨he, nn, hn⟩ => ⟨he, by rw [hn]; exact below_drewN (Below.refl _ _) nn⟩)
    have HSB := hidep (fun Y (hY : Below w114.heap.size w114 Y) => show Calls Tryz.prog 20 #[.slice fa fn fc, .slice ta T0.length tc] Y fun e w' => e = .returned (.bool (decide (fd = T0))) ∧ Below Y.heap.size Y w' from
      (sameTexts1_any _ _ fd T0 Y (H20.out Y hY) (H12.out Y hY)).mono fun e w' ⟨he, nn, hn⟩ => ⟨he, by rw [hn]; exact below_drewN (Below.refl _ _) nn⟩)
    have hX := Below.refl w114.heap.size w114
    by_cases hfm : fd = T0 ++ [tx]
    · rw [decide_eq_true hfm] at HSA
      clear hfm hm114 hk hbZ HSB
      go_wp2_with (first
        | (go_at_call 7; refine (HS.out _ HW.out).mono ?_; rintro e w1 ⟨rfl, hb1⟩; have hX := hX.trans hb1)
        | (go_at_call 20; refine (HSA.out _ hX).mono ?_; rintro e w2 ⟨rfl, hb2⟩; have hX := hX.trans (hb2.mono hX.size))
        | fail)
      go_ret
      exact ⟨rfl, HW.out.trans (hX.mono HW.out.size)⟩
    · rw [decide_eq_false hfm] at HSA
      have hre : re ≠ 0 ∧ fd = T0 := by
        rcases HSU.out with h | h
        · exact absurd h hfm
        · exact h
      rw [decide_eq_true hre.2] at HSB
      have b1 : (re != 0) = true := by simp [hre.1]
      have b2 : (re == 0) = false := by simp [hre.1]
      clear hfm hm114 hk hbZ hre
      go_wp2_with (first
        | (go_at_call 7; refine (HS.out _ HW.out).mono ?_; rintro e w1 ⟨rfl, hb1⟩; have hX := hX.trans hb1)
        | (go_at_call 20; first
            | ((with_reducible refine (HSA.out _ hX).mono ?_); rintro e w2 ⟨rfl, hb2⟩; have hX := hX.trans (hb2.mono hX.size))
            | ((with_reducible refine (HSB.out _ hX).mono ?_); rintro e w2 ⟨rfl, hb2⟩; have hX := hX.trans (hb2.mono hX.size)))
        | fail)
      go_ret
      exact ⟨rfl, HW.out.trans (hX.mono HW.out.size)⟩
end Go.Proofs.YtipbkdlekanlmaaGreatDoor
