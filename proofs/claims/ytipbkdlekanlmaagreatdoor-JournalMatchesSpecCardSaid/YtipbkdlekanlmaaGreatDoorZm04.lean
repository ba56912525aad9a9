/- Journal: the walk of the law JournalMatchesSpec. -/
import Derived.Test.YtipbkdlekanlmaaGreatDoorZm02
import Derived.Test.YtipbkdlekanlmaaGreatDoorZm03
import Derived.Test.YtipbkdlekanlmaaGreatDoorZr19
import Derived.Test.YtipbkdlekanlmaaGreatDoorZr18
import Derived.Test.YtipbkdlekanlmaaGreatDoorZr03
import Derived.Test.YtipbkdlekanlmaaGreatDoorZr32
namespace Go.Proofs.YtipbkdlekanlmaaGreatDoor
open Go.RowKit Go.Lab Go.Disk Go.Jn
attribute [local go_sem] Oper.semAt_some
set_option maxRecDepth 100000
theorem range_map190 (f : Nat → Value) : (List.range 190).map f = [f 0, f 1, f 2, f 3, f 4, f 5, f 6, f 7, f 8, f 9, f 10, f 11, f 12, f 13, f 14, f 15, f 16, f 17, f 18, f 19, f 20, f 21, f 22, f 23, f 24, f 25, f 26, f 27, f 28, f 29, f 30, f 31, f 32, f 33, f 34, f 35, f 36, f 37, f 38, f 39, f 40, f 41, f 42, f 43, f 44, f 45, f 46, f 47, f 48, f 49, f 50, f 51, f 52, f 53, f 54, f 55, f 56, f 57, f 58, f 59, f 60, f 61, f 62, f 63, f 64, f 65, f 66, f 67, f 68, f 69, f 70, f 71, f 72, f 73, f 74, f 75, f 76, f 77, f 78, f 79, f 80, f 81, f 82, f 83, f 84, f 85, f 86, f 87, f 88, f 89, f 90, f 91, f 92, f 93, f 94, f 95, f 96, f 97, f 98, f 99, f 100, f 101, f 102, f 103, f 104, f 105, f 106, f 107, f 108, f 109, f 110, f 111, f 112, f 113, f 114, f 115, f 116, f 117, f 118, f 119, f 120, f 121, f 122, f 123, f 124, f 125, f 126, f 127, f 128, f 129, f 130, f 131, f 132, f 133, f 134, f 135, f 136, f 137, f 138, f 139, f 140, f 141, f 142, f 143, f 144, f 145, f 146, f 147, f 148, f 149, f 150, f 151, f 152, f 153, f 154, f 155, f 156, f 157, f 158, f 159, f 160, f 161, f 162, f 163, f 164, f 165, f 166, f 167, f 168, f 169, f 170, f 171, f 172, f 173, f 174, f 175, f 176, f 177, f 178, f 179, f 180, f 181, f 182, f 183, f 184, f 185, f 186, f 187, f 188, f 189] := rfl
theorem frame190 (t : Array Value) (ds : List Deferred) (h : t.size = 190) : ({ tmps := t, defers := ds } : Act) = { tmps := #[slot t 0, slot t 1, slot t 2, slot t 3, slot t 4, slot t 5, slot t 6, slot t 7, slot t 8, slot t 9, slot t 10, slot t 11, slot t 12, slot t 13, slot t 14, slot t 15, slot t 16, slot t 17, slot t 18, slot t 19, slot t 20, slot t 21, slot t 22, slot t 23, slot t 24, slot t 25, slot t 26, slot t 27, slot t 28, slot t 29, slot t 30, slot t 31, slot t 32, slot t 33, slot t 34, slot t 35, slot t 36, slot t 37, slot t 38, slot t 39, slot t 40, slot t 41, slot t 42, slot t 43, slot t 44, slot t 45, slot t 46, slot t 47, slot t 48, slot t 49, slot t 50, slot t 51, slot t 52, slot t 53, slot t 54, slot t 55, slot t 56, slot t 57, slot t 58, slot t 59, slot t 60, slot t 61, slot t 62, slot t 63, slot t 64, slot t 65, slot t 66, slot t 67, slot t 68, slot t 69, slot t 70, slot t 71, slot t 72, slot t 73, slot t 74, slot t 75, slot t 76, slot t 77, slot t 78, slot t 79, slot t 80, slot t 81, slot t 82, slot t 83, slot t 84, slot t 85, slot t 86, slot t 87, slot t 88, slot t 89, slot t 90, slot t 91, slot t 92, slot t 93, slot t 94, slot t 95, slot t 96, slot t 97, slot t 98, slot t 99, slot t 100, slot t 101, slot t 102, slot t 103, slot t 104, slot t 105, slot t 106, slot t 107, slot t 108, slot t 109, slot t 110, slot t 111, slot t 112, slot t 113, slot t 114, slot t 115, slot t 116, slot t 117, slot t 118, slot t 119, slot t 120, slot t 121, slot t 122, slot t 123, slot t 124, slot t 125, slot t 126, slot t 127, slot t 128, slot t 129, slot t 130, slot t 131, slot t 132, slot t 133, slot t 134, slot t 135, slot t 136, slot t 137, slot t 138, slot t 139, slot t 140, slot t 141, slot t 142, slot t 143, slot t 144, slot t 145, slot t 146, slot t 147, slot t 148, slot t 149, slot t 150, slot t 151, slot t 152, slot t 153, slot t 154, slot t 155, slot t 156, slot t 157, slot t 158, slot t 159, slot t 160, slot t 161, slot t 162, slot t 163, slot t 164, slot t 165, slot t 166, slot t 167, slot t 168, slot t 169, slot t 170, slot t 171, slot t 172, slot t 173, slot t 174, slot t 175, slot t 176, slot t 177, slot t 178, slot t 179, slot t 180, slot t 181, slot t 182, slot t 183, slot t 184, slot t 185, slot t 186, slot t 187, slot t 188, slot t 189], defers := ds } := by
  have e : t = ((List.range 190).map (slot t)).toArray := by
    apply Array.ext
    · simp [h]
    · intro i h1 h2
      simp [slot, Array.getD, h1]
  rw [range_map190] at e
  exact congrArg (fun x => ({ tmps := x, defers := ds } : Act)) e
theorem rnew_bad (n : Int) (w : World) (h : n < 1) : Calls Tryz.prog 9 #[.int .i64 n] w fun e w' => e = .returned (.tuple #[.pointer none, .int .i64 1]) ∧ w = w' := by
  go_enter Tryz.func9, Tryz.ntmps9
  go_wp2
  go_ret2
  exact ⟨rfl, rfl⟩
def PtrV (v : Value) : Prop := ∃ b, v = .pointer (some ⟨b, 0, none⟩)
def MsI (n k : Nat) (w : World) (dhi ehi : Nat) (dv rv u9 u11 iv : Value) (wr : World) : Prop := ∃ (i : Nat) (j : JZ) (D : Dk) (B B2 : Nat → Prop) (lo lo2 : Nat), i ≤ k ∧ iv = .int .i64 (i : Nat) ∧ PtrV u9 ∧ PtrV u11 ∧ JOk j n (n + i) ∧ D.s.length = n ∧
  MsS lo lo2 w.heap.size dhi ehi dv rv u9 u11 j j D D B B2 w wr
/-- Behind a step of the script. -/
def MsM (n k i : Nat) (w : World) (dhi ehi : Nat) (dv rv sv : Value) (a : Act) (W : World) : Prop := a.tmps.size = 190 ∧ a.defers = [] ∧ slot a.tmps 5 = dv ∧ slot a.tmps 7 = rv ∧ slot a.tmps 69 = sv ∧ slot a.tmps 70 = .int .i64 (k : Nat) ∧ slot a.tmps 71 = .int .i64 (i : Nat) ∧
  ∃ (j : JZ) (D : Dk) (B B2 : Nat → Prop) (lo lo2 : Nat), PtrV (slot a.tmps 9) ∧ PtrV (slot a.tmps 11) ∧ JOk j n (n + (i + 1)) ∧ D.s.length = n ∧ MsS lo lo2 w.heap.size dhi ehi dv rv (slot a.tmps 9) (slot a.tmps 11) j j D D B B2 w W
theorem strs_ownJ {w : World} {base : Nat} {v : Value} {D : Dk} (h : w.ownsRow base 9 1 v D.s.length (strsC (imageZ D))) : StrsAt w v (imageZ D) := by
  unfold StrsAt
  have e : (imageZ D).length = D.s.length := by simp [imageZ]
  rw [e]
  exact (Rd.of_own h).mono (fun _ _ => trivial)
theorem range_belowJ {w w' : World} {b off : Nat} {cs : List Value} (h : w.rangeAt b off cs) (hb : Below w.heap.size w w') : w'.rangeAt b off cs := fun j x hx => Turned.cell (Turned.of_below (T := fun _ => False) hb) (h j x hx) (fun h => h)
theorem trip_len (D : Dk) (n : Int) : (tripD D n).s.length = D.s.length := rfl
theorem mount_len (D : Dk) (ps : List Int) : (mountD D ps).s.length = D.s.length := mountS_len _ _
theorem rot_len (D : Dk) (i b : Int) : (rotD D i b).s.length = D.s.length := by
  unfold rotD
  split
  · show (rotS D.s _ _).length = _
    unfold rotS
    rw [List.length_set]
  · rfl
theorem wear_len (D : Dk) (i : Int) : (wearD D i).s.length = D.s.length := by
  unfold wearD
  split
  · show (wearS D.s _).length = _
    unfold wearS
    rw [List.length_set]
  · rfl
theorem turn_box {lo hi E : Nat} {W W' : World} {o : Obj} (hT : Turn lo hi W W') (hE : W.heap[E]? = some o) (h : hi ≤ E) : W'.heap[E]? = some o := (hT.block E (lt_of_block hE) (by omega)).trans hE
set_option maxHeartbeats 4000000 in
theorem matches_any (sv : Value) (n : Int) (L : List StepZ) (w : World) (hn : -9223372036854775808 ≤ n ∧ n ≤ 9223372036854775807) (hL : StepsAt w sv L) (hk : w.rangeAt 2 0 (u32C ks0)) (hkr : w.rangeAt 0 0 (u32C ks0)) :
    Calls Tryz.prog 6 #[.int .i64 n, sv] w fun e w' => e = .returned (.bool true) ∧ Below w.heap.size w w' := by
  have HK := hidep (And.intro hk hkr)
  have HS := hidep (fun Y (hY : Below w.heap.size w Y) => sanity_any Y (HK.out.1.below hY))
  have HFE := hidep (few_any sv L w hL)
  clear hk hkr
  by_cases h1 : 200 < n
  · have g1 : n > 200 := h1
    go_enter Tryz.func6, Tryz.ntmps6
    go_wp2_with (first
      | (go_at_call 7; refine (HS.out _ (Below.refl _ _)).mono ?_; rintro e w1 ⟨rfl, hb1⟩)
      | fail)
    go_ret
    exact ⟨rfl, hb1⟩
  have g1 : ¬ n > 200 := h1
  cases hF : fewZ L with
  | false =>
    rw [hF] at HFE
    go_enter Tryz.func6, Tryz.ntmps6
    go_wp2_with (first
      | (go_at_call 29; refine HFE.out.mono ?_; rintro e w0 ⟨rfl, hb0⟩)
      | (go_at_call 7; refine (HS.out _ hb0).mono ?_; rintro e w1 ⟨rfl, hb1⟩)
      | fail)
    go_ret
    exact ⟨rfl, hb0.trans (hb1.mono hb0.size)⟩
  | true =>
  rw [hF] at HFE
  have hk30 : L.length ≤ 30 := by
    unfold fewZ at hF
    simp only [Bool.and_eq_true, decide_eq_true_eq] at hF
    exact hF.2
  clear hF
  by_cases h4 : n < 1
  · have HN := hidep (fun Y => new_bad n Y (.inl h4))
    have HN2 := hidep (fun Y => rnew_bad n Y h4)
    have g4 : n < 1 := h4
    clear h1 h4
    go_enter Tryz.func6, Tryz.ntmps6
    go_wp2_with (first
      | (go_at_call 29; refine HFE.out.mono ?_; rintro e w0 ⟨rfl, hb0⟩)
      | (go_at_call 8; refine (HN.out _).mono ?_; rintro e w1 ⟨rfl, rfl⟩)
      | (go_at_call 9; refine (HN2.out _).mono ?_; rintro e w2 ⟨rfl, rfl⟩)
      | (go_at_call 7; refine (HS.out _ hb0).mono ?_; rintro e w3 ⟨rfl, hb3⟩)
      | fail)
    go_ret
    exact ⟨rfl, hb0.trans (hb3.mono hb0.size)⟩
  obtain ⟨n, rfl⟩ : ∃ N : Nat, n = (N : Int) := ⟨n.toNat, by omega⟩
  have hn1 : 1 ≤ n ∧ n ≤ 200 := by omega
  have HN1 := hidep (fun Y => new_any n Y hn1.1 (by omega))
  have HN2 := hidep (fun Y => rnew_any n Y hn1.1 (by omega))
  obtain ⟨sa, sc, rfl, hsl, hsc⟩ := hL.form
  have HL := hidep hL
  unfold maxLen at hsc
  obtain ⟨k, hkd⟩ : ∃ k, k = L.length := ⟨_, rfl⟩
  rw [← hkd] at hsl HFE hk30 ⊢
  have HKD := hidep hkd
  clear hkd hL h1 h4 hn
  go_enter Tryz.func6, Tryz.ntmps6
  go_upto_region 7 with (first
    | (go_at_call 29; refine HFE.out.mono ?_; rintro e w0 ⟨rfl, hb0⟩)
    | (go_at_call 8; refine (HN1.out _).mono ?_; rintro e w1 ⟨dv, rfl, hd1, hb1⟩)
    | (go_at_call 9; refine (HN2.out _).mono ?_; rintro e w2 ⟨rv, rfl, hr2, hb2⟩)
    | fail)
  clear g1
  obtain ⟨q, rfl⟩ := disk_ptr hd1
  obtain ⟨rq, rfl⟩ := rdisk_ptr hr2
  obtain ⟨dhi, hdh⟩ : ∃ dhi, dhi = w1.heap.size := ⟨_, rfl⟩
  obtain ⟨ehi, heh⟩ : ∃ ehi, ehi = w2.heap.size := ⟨_, rfl⟩
  have hd2 := hd1.below hb2
  rw [← hdh] at hd2 hr2
  rw [← heh] at hr2
  have hlw : w0.heap.size ≤ dhi := by rw [hdh]; exact hb1.size
  have hle : dhi ≤ ehi := by rw [hdh, heh]; exact hb2.size
  have hes : ehi = w2.heap.size := heh
  have hbw2 := hb1.trans (hb2.mono hb1.size)
  have HL0 := hidep (HL.out.below hb0)
  have HBB := hidep hb0
  have HK0 := hidep (fun Y (hY : Below w0.heap.size w0 Y) => show Y.rangeAt 2 0 (u32C ks0) ∧ Y.rangeAt 0 0 (u32C ks0) from ⟨HK.out.1.below (hb0.trans (hY.mono hb0.size)), HK.out.2.below (hb0.trans (hY.mono hb0.size))⟩)
  have HS0 := hidep (fun Y (hY : Below w0.heap.size w0 Y) => HS.out Y (hb0.trans (hY.mono hb0.size)))
  have HO := hidep (open_any (.pointer (some ⟨q, 0, none⟩)) (newD n) w2 _ _ hd2 rfl (HK0.out _ hbw2).1)
  have HOR := hidep (fun Y (hY : Below w2.heap.size w2 Y) => openR_any (.pointer (some ⟨rq, 0, none⟩)) (newD n) Y _ _ (hr2.below hY) rfl (HK0.out _ (hbw2.trans (hY.mono hbw2.size))).2)
  have hHES := hidep hes
  have HD2 := hidep (And.intro hd2 (And.intro hr2 hbw2))
  clear hdh heh HN1 HN2 hd1 hb1 hb2 HL HK HS HFE hd2 hr2 hbw2 hb0 hes
  go_upto_region 9 with (first
    | (go_at_call 12; refine HO.out.mono ?_; rintro e w7 ⟨pj, rfl, hj7, hb7⟩)
    | (go_at_call 13; refine (HOR.out _ hb7).mono ?_; rintro e w8 ⟨pr, rfl, hr8, hb8⟩)
    | fail)
  obtain ⟨jb, rfl⟩ := jat_ptr' hj7
  obtain ⟨rb, rfl⟩ := rjat_ptr hr8
  have hz7 := hb7.size
  have hz8 := hb8.size
  have hjok := open_ok (newD n)
  rw [show (newD n).s.length = n from by simp [newD]] at hjok
  have hM8 : MsS w2.heap.size w7.heap.size w0.heap.size dhi ehi (.pointer (some ⟨q, 0, none⟩)) (.pointer (some ⟨rq, 0, none⟩)) (.pointer (some ⟨jb, 0, none⟩)) (.pointer (some ⟨rb, 0, none⟩)) (openZ (newD n)) (openZ (newD n)) (newD n) (newD n) (fun x => w2.heap.size ≤ x ∧ x < w7.heap.size) (fun x => w7.heap.size ≤ x ∧ x < w8.heap.size) w0 w8 :=
    ⟨(hj7.on).below hb8, hr8.on, (HD2.out.1.below hb7).below hb8, (HD2.out.2.1.below hb7).below hb8, by rw [hHES.out]; exact Nat.le_refl _, by rw [hHES.out]; exact hz7, ⟨hlw, hle, by rw [hHES.out]; omega⟩, fun x hx => ⟨by rw [hHES.out]; omega, by omega, fun h => by omega⟩, fun x hx => ⟨by rw [hHES.out]; omega, hx.2⟩,
      (HD2.out.2.2.trans (hb7.mono HD2.out.2.2.size)).trans (hb8.mono (by have := HD2.out.2.2.size; omega))⟩
  have HSM := hidep (fun Y (hY : Below w8.heap.size w8 Y) => same_any _ _ _ _ (openZ (newD n)) (newD n) Y _ _ _ _ _ _ n n (hM8.below hY).jn.at (hM8.below hY).rn.at (hM8.below hY).dk (hM8.below hY).rk hjok (by omega))
  have HM8 := hidep hM8
  have HJ := hidep hjok
  clear hj7 hr8 hb7 hb8 HD2 hHES HO HOR hM8 hjok hz7 hz8
  go_upto_region 11 with (first
    | (go_at_call 14; refine (HSM.out _ (Below.refl _ _)).mono ?_; rintro e w10 ⟨rfl, hb10⟩)
    | fail)
  have HG := hidep (show MsI n k w0 dhi ehi (.pointer (some ⟨q, 0, none⟩)) (.pointer (some ⟨rq, 0, none⟩)) (.pointer (some ⟨jb, 0, none⟩)) (.pointer (some ⟨rb, 0, none⟩)) (.int .i64 0) w10 from
    ⟨0, openZ (newD n), newD n, _, _, _, _, Nat.zero_le _, rfl, ⟨jb, rfl⟩, ⟨rb, rfl⟩, HJ.out, by simp [newD], HM8.out.below hb10⟩)
  clear HM8 HJ HSM hb10
  go_upto_region 12 with (fail)
  refine wp_loop (LoopI 190 (fun tm ds wr => (slot tm 5) = .pointer (some ⟨q, 0, none⟩) ∧ (slot tm 7) = .pointer (some ⟨rq, 0, none⟩) ∧ (slot tm 69) = .slice sa k sc ∧ (slot tm 70) = .int .i64 (k : Nat) ∧ ds = [] ∧ MsI n k w0 dhi ehi (.pointer (some ⟨q, 0, none⟩)) (.pointer (some ⟨rq, 0, none⟩)) (slot tm 9) (slot tm 11) (slot tm 71) wr)) (fun a' wr => k - natI (a'.tmps.getD 71 undef)) ?wr1Start ?wr1Round
  case' wr1Start => refine LoopI.mk rfl ?_
  case' wr1Round => (rintro ⟨t, ds⟩ wr ⟨hts, hrel⟩; dsimp only at hts hrel; rw [frame190 t ds hts])
  case wr1Start => exact ⟨rfl, rfl, rfl, rfl, rfl, HG.out⟩
  clear HG
  obtain ⟨e5, e7, e69, e70, hds, i, j, D, B, B2, lo, lo2, hi, e71, ⟨jp, e9⟩, ⟨rp, e11⟩, hjo, hDl, hM⟩ := hrel
  subst hds
  rw [e9, e11] at hM
  rw [e5, e7, e9, e11, e69, e70, e71]
  clear e5 e7 e9 e11 e69 e70 e71 hts
  have hd1 := hM.d1
  by_cases hik : i < k
  · have hiki : (i : Int) < (k : Int) := by omega
    have hi0 : (0 : Int) ≤ (i : Int) := by omega
    have hiL : i < L.length := by rw [← HKD.out]; exact hik
    rw [show k = L.length from HKD.out] at hiki hik hsl hk30 ⊢
    obtain ⟨g, o, u, rfl, hg0, hrg0, hpk, hok⟩ := HL0.out.at hiL
    have hrg := range_belowJ hrg0 hM.bel
    obtain ⟨pa, pc, rfl, _, _⟩ := hpk.1.form
    obtain ⟨st, hst⟩ : ∃ st, st = L[i] := ⟨_, rfl⟩
    rw [← hst] at hrg hok hpk
    obtain ⟨ps, hps⟩ : ∃ ps, ps = st.picks := ⟨_, rfl⟩
    rw [← hps] at hpk hrg
    have HP := hidep (fun Y (hY : Below w0.heap.size w0 Y) => hpk.below hY)
    obtain ⟨pl, hpl⟩ : ∃ pl, pl = ps.length := ⟨_, rfl⟩
    rw [← hpl] at hrg HP
    obtain ⟨cs, hcs⟩ : ∃ cs, cs = stepC st (.slice pa pl pc) := ⟨_, rfl⟩
    rw [← hcs] at hrg
    have hcs6 : cs.length = 6 := by rw [hcs]; rfl
    have hone : cs.toArray.all (·.oneCell') = true := by rw [hcs]; simp [stepC, Value.oneCell']
    have HM := hidep hM
    have HJ := hidep (And.intro hjo hDl)
    clear hst hps hpl hpk hM hjo hDl hrg0 hg0
    go_upto_region 13 with (fail)
    refine wp_region_lit ?_
    refine wpList_value rfl (v := .pointer (some ⟨g, o + i * 6, none⟩)) (w' := wr) (by
      have e : ∀ ev : Operand → Value, ev (.tmp 69) = .slice (some ⟨g, o, none⟩) L.length sc → ev (.tmp 71) = .int .i64 (i : Int) → (execOp ev ⟨some 73, .indexAddr 40 (.tmp 69) (.tmp 71), 0, "", #[], none⟩).run Tryz.prog wr = .ok (.value (.pointer (some ⟨g, o + i * 6, none⟩))) wr := fun ev ha hc => by
        go_simp
      exact e _ (by kernel_rfl) (by kernel_rfl)) ?_
    refine wpList_load_mid rfl 56 _ rfl g (o + i * 6) (by kernel_rfl) cs _ hrg row_step.1.choose_spec.1 row_step.1.choose_spec.2 (by rw [hcs6]; exact row_step.2) ?_
    refine wpList_alloc_row zero_step _ rfl rfl ?_
    refine wpList_store_last (t := 56) (c' := cs.toArray) wr (by rw [List.size_toArray, hcs6]; exact row_step.2) (by simp [hcs6]) hone rfl _ _ rfl (by kernel_rfl) (by kernel_rfl) ?_
    refine wpList_nil ?_
    apply_assumption
    refine wp_abs (fun X => X.heap[wr.heap.size]? = some (.cells cs.toArray 56) ∧ Below wr.heap.size wr X) ⟨heap_alloc_new _ _, (Below.refl _ _).alloc (Nat.le_refl _) _⟩ ?_
    rintro X ⟨hqE, hbX⟩
    obtain ⟨E, hE⟩ : ∃ E, E = wr.heap.size := ⟨_, rfl⟩
    rw [← hE] at hqE
    have hEh : ehi ≤ E := by omega
    have HNB := hidep (show ¬ B E ∧ ¬ B2 E from ⟨fun h => by have := (HM.out.b1 E h).2.1; omega, fun h => by have := (HM.out.b2 E h).2; omega⟩)
    refine wp_cutA 190 (fun tm ds => ds = [] ∧ slot tm 5 = .pointer (some ⟨q, 0, none⟩) ∧ slot tm 7 = .pointer (some ⟨rq, 0, none⟩) ∧ slot tm 9 = .pointer (some ⟨jp, 0, none⟩) ∧ slot tm 11 = .pointer (some ⟨rp, 0, none⟩) ∧ slot tm 14 = .pointer (some ⟨E, 0, none⟩) ∧ slot tm 69 = .slice (some ⟨g, o, none⟩) L.length sc ∧ slot tm 70 = .int .i64 (L.length : Nat) ∧ slot tm 71 = .int .i64 (i : Nat)) (by kernel_rfl) (by exact ⟨by kernel_rfl, by kernel_rfl, by kernel_rfl, by kernel_rfl, by kernel_rfl, by rw [hE]; kernel_rfl, by kernel_rfl, by kernel_rfl, by kernel_rfl⟩) ?_
    rintro tA dA h190 ⟨rfl, e5, e7, e9, e11, e14, e69, e70, e71⟩
    rw [frame190 tA [] h190, e5, e7, e9, e11, e14, e69, e70, e71]
    rw [hcs] at hqE
    have hcl := step_cells hqE
    obtain ⟨c0, c1, c2, c3, c4, c5⟩ := hcl
    have hM0 := HM.out.below hbX
    have HM0 := hidep hM0
    obtain ⟨jok, hDl⟩ := HJ.out
    obtain ⟨kd, hkd⟩ : ∃ kd, kd = st.kind := ⟨_, rfl⟩
    rw [← hkd] at c0
    have HKd := hidep hkd
    clear h190 e5 e7 e9 e11 e14 e69 e70 e71 hrg hE hcs hbX HM hkd hM0
    go_upto_block 2 with (fail)
    refine wp_join (MsM n L.length i w0 dhi ehi (.pointer (some ⟨q, 0, none⟩)) (.pointer (some ⟨rq, 0, none⟩)) (.slice (some ⟨g, o, none⟩) L.length sc)) ?sw ?_
    case sw =>
      intro K' hMK
      by_cases k1 : kd = 1
      · have b1 : (kd == 1) = true := by simp [k1]
        clear k1
        have HTX := hidep (fun Y => textR_any kd st.i st.bit st.size st.fill pa pl pc Y hok.2.2.2.2)
        obtain ⟨tx, htx⟩ : ∃ tx, tx = stepText st.size st.fill := ⟨_, rfl⟩
        have htxs := text_size st.size st.fill
        rw [← htx] at HTX htxs
        have HAP := hidep (fun Y (hY : Below X.heap.size X Y) => append_any (.pointer (some ⟨jp, 0, none⟩)) (.pointer (some ⟨q, 0, none⟩)) j D tx Y lo w0.heap.size dhi B (HM0.out.below hY).jn (HM0.out.below hY).dk (by have := HM0.out.l1; omega) (by omega) ⟨jok.s0, by have := jok.s1; omega⟩ ⟨jok.n0, by have := jok.n1; omega⟩ ⟨by have := jok.nl; omega, by have := jok.tl; omega⟩ (HK0.out _ (HM0.out.below hY).bel).1)
        have HAR := hidep (fun Y (hr : RJOn B2 Y lo2 (.pointer (some ⟨rp, 0, none⟩)) (.pointer (some ⟨rq, 0, none⟩)) j) (hd : RDiskAt Y dhi ehi (.pointer (some ⟨rq, 0, none⟩)) D) (hY : Below w0.heap.size w0 Y) => appendR_any (.pointer (some ⟨rp, 0, none⟩)) (.pointer (some ⟨rq, 0, none⟩)) j D tx Y lo2 dhi ehi B2 hr hd HM0.out.l2 (by omega) ⟨jok.s0, by have := jok.s1; omega⟩ ⟨jok.n0, by have := jok.n1; omega⟩ ⟨by have := jok.nl; omega, by have := jok.tl; omega⟩ (HK0.out _ hY).2)
        have hrok := append_ok jok hDl tx
        obtain ⟨r, hr⟩ : ∃ r, r = appendZ j D tx := ⟨_, rfl⟩
        rw [← hr] at HAP HAR hrok
        clear hr
        obtain ⟨rn, re, j', D'⟩ := r
        simp only at HAP HAR hrok
        have HROK := hidep hrok
        clear htx hrok
        go_upto_region 18 with (first
          | (go_at_call 27; refine (HTX.out _).mono ?_; rintro e w5 ⟨rfl, hb5⟩)
          | (go_at_call 26; refine (HAP.out _ hb5).mono ?_; rintro e w6 ⟨rfl, hj6, hd6, hT6⟩)
          | fail)
        have hM6 := (HM0.out.below hb5).code hj6 hd6 hT6
        have hq6 := hT6.cells (below_push hb5 hqE) (fun hx => by
          rcases hx with hx | hx
          · omega
          · exact HNB.out.1 hx)
        obtain ⟨x0, x1, x2, x3, x4, x5⟩ := step_cells hq6
        rw [← HKd.out] at x0
        have HM6 := hidep hM6
        clear c0 c1 c2 c3 c4 c5 hj6 hd6 hT6 hb5 hM6 HAP
        go_upto_region 19 with (first
          | (go_at_call 27; refine (HTX.out _).mono ?_; rintro e w7 ⟨rfl, hb7⟩)
          | (go_at_call 30; refine (HAR.out _ (HM6.out.below hb7).rn (HM6.out.below hb7).rk (HM6.out.below hb7).bel).mono ?_; rintro e w8 ⟨rfl, hr8, hd8, hT8⟩)
          | fail)
        have hM8 := (HM6.out.below hb7).ref hr8 hd8 hT8
        have HM8 := hidep hM8
        have n1 : (rn != rn) = false := by simp
        have n2 : (re != re) = false := by simp
        clear x0 x1 x2 x3 x4 x5 hr8 hd8 hT8 hb7 hM8 HM6 HAR hq6
        go_wp2
        exact ⟨rfl, rfl, by kernel_rfl, by kernel_rfl, by kernel_rfl, by kernel_rfl, by kernel_rfl, j', D', _, _, _, _, ⟨jp, by kernel_rfl⟩, ⟨rp, by kernel_rfl⟩, HROK.out.1, HROK.out.2, HM8.out⟩
      have b1 : (kd == 1) = false := by simp [k1]
      by_cases k2 : kd = 2
      · have b2 : (kd == 2) = true := by simp [k2]
        clear k1 k2
        have hi1 := hok.2.1
        go_upto_region 23 with (first
          | (go_at_call 25; refine (trip_any _ D st.i X _ _ HM0.out.dk hi1).mono ?_; rintro e w5 ⟨rfl, hd5, hT5⟩)
          | fail)
        have hM1 := HM0.out.turnC hd5 hT5
        have hq5 := turn_box hT5 hqE (by omega)
        obtain ⟨x0, x1, x2, x3, x4, x5⟩ := step_cells hq5
        clear c0 c1 c2 c3 c4 c5 x0 x2 x3 x4 x5 hd5 hT5
        go_wp2_with (first
          | (go_at_call 31; refine (rtrip_any _ D st.i w5 _ _ hM1.rk hi1).mono ?_; rintro e w6 ⟨rfl, hd6, hT6⟩)
          | fail)
        have hM2 := hM1.turnR hd6 hT6
        exact ⟨rfl, rfl, by kernel_rfl, by kernel_rfl, by kernel_rfl, by kernel_rfl, by kernel_rfl, j, _, _, _, _, _, ⟨jp, by kernel_rfl⟩, ⟨rp, by kernel_rfl⟩, jok.mono (by omega), (trip_len D st.i).trans hDl, hM2⟩
      have b2 : (kd == 2) = false := by simp [k2]
      by_cases k3 : kd = 3
      · have b3 : (kd == 3) = true := by simp [k3]
        clear k1 k2 k3
        go_upto_region 26 with (first
          | (go_at_call 28; refine (mount_any _ _ ps D X _ _ HM0.out.dk (fun Y hY => HP.out Y (HM0.out.bel.trans (hY.below (Nat.le_refl _) HM0.out.bel.size)))).mono ?_; rintro e w5 ⟨rfl, hd5, hT5⟩)
          | fail)
        have hM1 := HM0.out.turnC hd5 hT5
        have hq5 := turn_box hT5 hqE (by omega)
        obtain ⟨x0, x1, x2, x3, x4, x5⟩ := step_cells hq5
        have HM1 := hidep hM1
        clear c0 c1 c2 c3 c4 c5 x0 x1 x2 x3 x4 hd5 hT5 hM1
        go_upto_region 27 with (first
          | (go_at_call 32; refine (rmount_any _ _ ps D w5 _ _ HM1.out.rk (fun Y hY => HP.out Y (HM1.out.bel.trans (hY.below HM1.out.d1.1 HM1.out.bel.size)))).mono ?_; rintro e w6 ⟨rfl, hd6, hT6⟩)
          | fail)
        have hM2 := HM1.out.turnR hd6 hT6
        have HO := hidep (open_any (.pointer (some ⟨q, 0, none⟩)) (mountD D ps) w6 _ _ hM2.dk rfl (HK0.out _ hM2.bel).1)
        have HOR := hidep (fun Y (hY : Below w6.heap.size w6 Y) => openR_any (.pointer (some ⟨rq, 0, none⟩)) (mountD D ps) Y _ _ (hM2.below hY).rk rfl (HK0.out _ (hM2.below hY).bel).2)
        have hjk := open_ok (mountD D ps)
        rw [mount_len, hDl] at hjk
        have HJK := hidep hjk
        have HM2 := hidep hM2
        clear x5 hd6 hT6 hM2 HM1 hjk
        go_upto_region 29 with (first
          | (go_at_call 12; refine HO.out.mono ?_; rintro e w7 ⟨pj, rfl, hj7, hb7⟩; obtain ⟨jb7, hjb7⟩ := jat_ptr' hj7; subst hjb7)
          | (go_at_call 13; refine (HOR.out _ hb7).mono ?_; rintro e w8 ⟨pr, rfl, hr8, hb8⟩; obtain ⟨rb8, hrb8⟩ := rjat_ptr hr8; subst hrb8)
          | fail)
        have hM8 := (HM2.out.openC hj7 hb7).openR hr8 hb8
        have HM8 := hidep hM8
        clear hM8 hj7 hb7 hr8 hb8 HM2 HO HOR
        go_wp2
        exact ⟨rfl, rfl, by kernel_rfl, by kernel_rfl, by kernel_rfl, by kernel_rfl, by kernel_rfl, openZ (mountD D ps), mountD D ps, _, _, _, _, ⟨jb7, by kernel_rfl⟩, ⟨rb8, by kernel_rfl⟩, HJK.out.mono (by omega), (mount_len D ps).trans hDl, HM8.out⟩
      have b3 : (kd == 3) = false := by simp [k3]
      by_cases k4 : kd = 4
      · have b4 : (kd == 4) = true := by simp [k4]
        clear k1 k2 k3 k4
        obtain ⟨er, her⟩ : ∃ er : Int, er = if rotOk D st.i st.bit = true then 0 else 1 := ⟨_, rfl⟩
        have HRO := hidep (fun Y hd => rot_any (.pointer (some ⟨q, 0, none⟩)) D st.i st.bit Y w0.heap.size dhi hd)
        have HRR := hidep (fun Y hd => rrot_any (.pointer (some ⟨rq, 0, none⟩)) D st.i st.bit Y dhi ehi hd)
        rw [← her] at HRO HRR
        have n1 : (er != er) = false := by simp
        clear her c0 c1 c2 c3 c4 c5
        go_upto_region 32 with (fail)
        refine wp_region_noPanic (wp_region_held_drew (S := (fun Y => Y.heap[E]? = some (.cells (stepC st (.slice pa pl pc)).toArray 56))) (by kernel_rfl) ?hS6r32n0 (fun hHeld => ?hR6r32n0))
        case hS6r32n0 => ((try dsimp only); (exact hqE))
        refine wpAnyH_take (i := 0) (v := ?v6r32n0q1) rfl (by kernel_rfl) (by kernel_rfl) (by kernel_rfl) (fun _ _ _ h => h) (Or.inl ⟨by kernel_rfl, ?hy6r32n0q1⟩) (by assumption) ?hr6r32n0q1
        case hy6r32n0q1 => (intro w hSw; (try dsimp only at hSw); (obtain ⟨s0, s1, s2, s3, s4, s5⟩ := step_cells hSw); first | (go_simp; done) | (go_simp; with_reducible rfl))
        refine wpAnyH_take (i := 1) (v := ?v6r32n0q2) rfl (by kernel_rfl) (by kernel_rfl) (by kernel_rfl) (fun _ _ _ h => h) (Or.inl ⟨by kernel_rfl, ?hy6r32n0q2⟩) (by assumption) ?hr6r32n0q2
        case hy6r32n0q2 => (intro w hSw; (try dsimp only at hSw); (obtain ⟨s0, s1, s2, s3, s4, s5⟩ := step_cells hSw); first | (go_simp; done) | (go_simp; with_reducible rfl))
        refine wpAnyH_take (i := 2) (v := ?v6r32n0q3) rfl (by kernel_rfl) (by kernel_rfl) (by kernel_rfl) (fun _ _ _ h => h) (Or.inl ⟨by kernel_rfl, ?hy6r32n0q3⟩) (by assumption) ?hr6r32n0q3
        case hy6r32n0q3 => (intro w hSw; (try dsimp only at hSw); (obtain ⟨s0, s1, s2, s3, s4, s5⟩ := step_cells hSw); first | (go_simp; done) | (go_simp; with_reducible rfl))
        refine wpAnyH_take (i := 3) (v := ?v6r32n0q4) rfl (by kernel_rfl) (by kernel_rfl) (by kernel_rfl) (fun _ _ _ h => h) (Or.inl ⟨by kernel_rfl, ?hy6r32n0q4⟩) (by assumption) ?hr6r32n0q4
        case hy6r32n0q4 => (intro w hSw; (try dsimp only at hSw); (obtain ⟨s0, s1, s2, s3, s4, s5⟩ := step_cells hSw); first | (go_simp; done) | (go_simp; with_reducible rfl))
        refine wpAnyH_take (i := 4) (v := ?v6r32n0q5) rfl (by kernel_rfl) (by kernel_rfl) (by kernel_rfl) (fun _ _ _ h => h) (Or.inl ⟨by kernel_rfl, ?hy6r32n0q5⟩) (by assumption) ?hr6r32n0q5
        case hy6r32n0q5 => (intro w hSw; (try dsimp only at hSw); (obtain ⟨s0, s1, s2, s3, s4, s5⟩ := step_cells hSw); first | (go_simp; done) | (go_simp; with_reducible rfl))
        refine wpAnyH_take (i := 6) (v := ?v6r32n0q6) rfl (by kernel_rfl) (by kernel_rfl) (by kernel_rfl) (fun _ _ _ h => h) (Or.inl ⟨by kernel_rfl, ?hy6r32n0q6⟩) (by assumption) ?hr6r32n0q6
        case hy6r32n0q6 => (intro w hSw; (try dsimp only at hSw); (obtain ⟨s0, s1, s2, s3, s4, s5⟩ := step_cells hSw); first | (go_simp; done) | (go_simp; with_reducible rfl))
        refine wpAnyH_take (i := 7) (v := ?v6r32n0q7) rfl (by kernel_rfl) (by kernel_rfl) (by kernel_rfl) (fun _ _ _ h => h) (Or.inl ⟨by kernel_rfl, ?hy6r32n0q7⟩) (by assumption) ?hr6r32n0q7
        case hy6r32n0q7 => (intro w hSw; (try dsimp only at hSw); (obtain ⟨s0, s1, s2, s3, s4, s5⟩ := step_cells hSw); first | (go_simp; done) | (go_simp; with_reducible rfl))
        refine wpAnyH_take (i := 8) (v := ?v6r32n0q8) rfl (by kernel_rfl) (by kernel_rfl) (by kernel_rfl) (fun _ _ _ h => h) (Or.inl ⟨by kernel_rfl, ?hy6r32n0q8⟩) (by assumption) ?hr6r32n0q8
        case hy6r32n0q8 => (intro w hSw; (try dsimp only at hSw); (obtain ⟨s0, s1, s2, s3, s4, s5⟩ := step_cells hSw); first | (go_simp; done) | (go_simp; with_reducible rfl))
        refine wpAnyH_take (i := 9) (v := ?v6r32n0q9) rfl (by kernel_rfl) (by kernel_rfl) (by kernel_rfl) (fun _ _ _ h => h) (Or.inl ⟨by kernel_rfl, ?hy6r32n0q9⟩) (by assumption) ?hr6r32n0q9
        case hy6r32n0q9 => (intro w hSw; (try dsimp only at hSw); (obtain ⟨s0, s1, s2, s3, s4, s5⟩ := step_cells hSw); first | (go_simp; done) | (go_simp; with_reducible rfl))
        refine wpAnyH_take (i := 10) (v := ?v6r32n0q10) rfl (by kernel_rfl) (by kernel_rfl) (by kernel_rfl) (fun _ _ _ h => h) (Or.inl ⟨by kernel_rfl, ?hy6r32n0q10⟩) (by assumption) ?hr6r32n0q10
        case hy6r32n0q10 => (intro w hSw; (try dsimp only at hSw); (obtain ⟨s0, s1, s2, s3, s4, s5⟩ := step_cells hSw); first | (go_simp; done) | (go_simp; with_reducible rfl))
        refine wpAnyH_ready (rs := [5]) (by kernel_rfl) (by simp) (AllReadyH.cons rfl (fun K hK => ?hc6r32n0q11) AllReadyH.nil)
        go_simp
        (go_at_call 17; (first | (refine (HRO.out _ HM0.out.dk).mono ?_) | (refine (HRO.out _ (HM0.out.below (Below.refl _ _).drew).dk).mono ?_)); rintro e w147 ⟨rfl, hd147, hT147⟩; (first | (have hM1 := HM0.out.turnC hd147 hT147) | (have hM1 := (HM0.out.below (Below.refl _ _).drew).turnC hd147 hT147)); have hq2 := turn_box hT147 hqE (by omega); have hqE := hq2; clear hq2 hd147 hT147; (try dsimp only))
        refine hK.out _ _ ?hs6r32n0q11 (fun hHeld6r32n0q11 => ?ht6r32n0q11)
        case hs6r32n0q11 => ((try dsimp only); (exact hqE))
        clear hHeld hK
        have hHeld := hHeld6r32n0q11
        clear hHeld6r32n0q11
        refine wpAnyH_ready (rs := [11]) (by kernel_rfl) (by simp) (AllReadyH.cons rfl (fun K hK => ?hc6r32n0q12) AllReadyH.nil)
        go_simp
        (go_at_call 33; (first | (refine (HRR.out _ hM1.rk).mono ?_) | (refine (HRR.out _ (hM1.below (Below.refl _ _).drew).rk).mono ?_)); rintro e w153 ⟨rfl, hd153, hT153⟩; (first | (have hM2 := hM1.turnR hd153 hT153) | (have hM2 := (hM1.below (Below.refl _ _).drew).turnR hd153 hT153)); have hq2 := turn_box hT153 hqE (by omega); have hqE := hq2; clear hq2 hd153 hT153; (try dsimp only))
        refine hK.out _ _ ?hs6r32n0q12 (fun hHeld6r32n0q12 => ?ht6r32n0q12)
        case hs6r32n0q12 => ((try dsimp only); (exact hqE))
        clear hHeld hK
        have hHeld := hHeld6r32n0q12
        clear hHeld6r32n0q12
        refine wpAnyH_take (i := 12) (v := ?v6r32n0q13) rfl (by kernel_rfl) (by kernel_rfl) (by kernel_rfl) (fun _ _ _ h => h) (Or.inl ⟨by kernel_rfl, ?hy6r32n0q13⟩) (by assumption) ?hr6r32n0q13
        case hy6r32n0q13 => (intro w hSw; (try dsimp only at hSw); (obtain ⟨s0, s1, s2, s3, s4, s5⟩ := step_cells hSw); first | (go_simp; done) | (go_simp; with_reducible rfl))
        refine wpAnyH_done (by kernel_rfl) ?_ _
        clear hHeld
        refine NoPanic.normal ?_
        (try dsimp only [Exit.inBlock, Exit.then])
        apply_assumption
        go_wp2
        exact ⟨rfl, rfl, by kernel_rfl, by kernel_rfl, by kernel_rfl, by kernel_rfl, by kernel_rfl, j, rotD D st.i st.bit, _, _, _, _, ⟨jp, by kernel_rfl⟩, ⟨rp, by kernel_rfl⟩, jok.mono (by omega), (rot_len D st.i st.bit).trans hDl, hM2⟩
      have b4 : (kd == 4) = false := by simp [k4]
      by_cases k5 : kd = 5
      · have b5 : (kd == 5) = true := by simp [k5]
        clear k1 k2 k3 k4 k5
        have hi1 := hok.2.1
        obtain ⟨er, her⟩ : ∃ er : Int, er = if D.isIn st.i = true then 0 else 1 := ⟨_, rfl⟩
        have HRO := hidep (fun Y hd => wear_any (.pointer (some ⟨q, 0, none⟩)) D st.i Y w0.heap.size dhi hd hi1)
        have HRR := hidep (fun Y hd => rwear_any (.pointer (some ⟨rq, 0, none⟩)) D st.i Y dhi ehi hd)
        rw [← her] at HRO HRR
        have n1 : (er != er) = false := by simp
        clear her c0 c1 c2 c3 c4 c5
        go_upto_region 35 with (fail)
        refine wp_region_noPanic (wp_region_held_drew (S := (fun Y => Y.heap[E]? = some (.cells (stepC st (.slice pa pl pc)).toArray 56))) (by kernel_rfl) ?hS6r35n1 (fun hHeld => ?hR6r35n1))
        case hS6r35n1 => ((try dsimp only); (exact hqE))
        refine wpAnyH_take (i := 0) (v := ?v6r35n1q1) rfl (by kernel_rfl) (by kernel_rfl) (by kernel_rfl) (fun _ _ _ h => h) (Or.inl ⟨by kernel_rfl, ?hy6r35n1q1⟩) (by assumption) ?hr6r35n1q1
        case hy6r35n1q1 => (intro w hSw; (try dsimp only at hSw); (obtain ⟨s0, s1, s2, s3, s4, s5⟩ := step_cells hSw); first | (go_simp; done) | (go_simp; with_reducible rfl))
        refine wpAnyH_take (i := 1) (v := ?v6r35n1q2) rfl (by kernel_rfl) (by kernel_rfl) (by kernel_rfl) (fun _ _ _ h => h) (Or.inl ⟨by kernel_rfl, ?hy6r35n1q2⟩) (by assumption) ?hr6r35n1q2
        case hy6r35n1q2 => (intro w hSw; (try dsimp only at hSw); (obtain ⟨s0, s1, s2, s3, s4, s5⟩ := step_cells hSw); first | (go_simp; done) | (go_simp; with_reducible rfl))
        refine wpAnyH_take (i := 2) (v := ?v6r35n1q3) rfl (by kernel_rfl) (by kernel_rfl) (by kernel_rfl) (fun _ _ _ h => h) (Or.inl ⟨by kernel_rfl, ?hy6r35n1q3⟩) (by assumption) ?hr6r35n1q3
        case hy6r35n1q3 => (intro w hSw; (try dsimp only at hSw); (obtain ⟨s0, s1, s2, s3, s4, s5⟩ := step_cells hSw); first | (go_simp; done) | (go_simp; with_reducible rfl))
        refine wpAnyH_take (i := 4) (v := ?v6r35n1q4) rfl (by kernel_rfl) (by kernel_rfl) (by kernel_rfl) (fun _ _ _ h => h) (Or.inl ⟨by kernel_rfl, ?hy6r35n1q4⟩) (by assumption) ?hr6r35n1q4
        case hy6r35n1q4 => (intro w hSw; (try dsimp only at hSw); (obtain ⟨s0, s1, s2, s3, s4, s5⟩ := step_cells hSw); first | (go_simp; done) | (go_simp; with_reducible rfl))
        refine wpAnyH_take (i := 5) (v := ?v6r35n1q5) rfl (by kernel_rfl) (by kernel_rfl) (by kernel_rfl) (fun _ _ _ h => h) (Or.inl ⟨by kernel_rfl, ?hy6r35n1q5⟩) (by assumption) ?hr6r35n1q5
        case hy6r35n1q5 => (intro w hSw; (try dsimp only at hSw); (obtain ⟨s0, s1, s2, s3, s4, s5⟩ := step_cells hSw); first | (go_simp; done) | (go_simp; with_reducible rfl))
        refine wpAnyH_take (i := 6) (v := ?v6r35n1q6) rfl (by kernel_rfl) (by kernel_rfl) (by kernel_rfl) (fun _ _ _ h => h) (Or.inl ⟨by kernel_rfl, ?hy6r35n1q6⟩) (by assumption) ?hr6r35n1q6
        case hy6r35n1q6 => (intro w hSw; (try dsimp only at hSw); (obtain ⟨s0, s1, s2, s3, s4, s5⟩ := step_cells hSw); first | (go_simp; done) | (go_simp; with_reducible rfl))
        refine wpAnyH_ready (rs := [3]) (by kernel_rfl) (by simp) (AllReadyH.cons rfl (fun K hK => ?hc6r35n1q7) AllReadyH.nil)
        go_simp
        (go_at_call 34; (first | (refine (HRO.out _ HM0.out.dk).mono ?_) | (refine (HRO.out _ (HM0.out.below (Below.refl _ _).drew).dk).mono ?_)); rintro e w160 ⟨rfl, hd160, hT160⟩; (first | (have hM1 := HM0.out.turnC hd160 hT160) | (have hM1 := (HM0.out.below (Below.refl _ _).drew).turnC hd160 hT160)); have hq2 := turn_box hT160 hqE (by omega); have hqE := hq2; clear hq2 hd160 hT160; (try dsimp only))
        refine hK.out _ _ ?hs6r35n1q7 (fun hHeld6r35n1q7 => ?ht6r35n1q7)
        case hs6r35n1q7 => ((try dsimp only); (exact hqE))
        clear hHeld hK
        have hHeld := hHeld6r35n1q7
        clear hHeld6r35n1q7
        refine wpAnyH_ready (rs := [7]) (by kernel_rfl) (by simp) (AllReadyH.cons rfl (fun K hK => ?hc6r35n1q8) AllReadyH.nil)
        go_simp
        (go_at_call 35; (first | (refine (HRR.out _ hM1.rk).mono ?_) | (refine (HRR.out _ (hM1.below (Below.refl _ _).drew).rk).mono ?_)); rintro e w164 ⟨rfl, hd164, hT164⟩; (first | (have hM2 := hM1.turnR hd164 hT164) | (have hM2 := (hM1.below (Below.refl _ _).drew).turnR hd164 hT164)); have hq2 := turn_box hT164 hqE (by omega); have hqE := hq2; clear hq2 hd164 hT164; (try dsimp only))
        refine hK.out _ _ ?hs6r35n1q8 (fun hHeld6r35n1q8 => ?ht6r35n1q8)
        case hs6r35n1q8 => ((try dsimp only); (exact hqE))
        clear hHeld hK
        have hHeld := hHeld6r35n1q8
        clear hHeld6r35n1q8
        refine wpAnyH_take (i := 8) (v := ?v6r35n1q9) rfl (by kernel_rfl) (by kernel_rfl) (by kernel_rfl) (fun _ _ _ h => h) (Or.inl ⟨by kernel_rfl, ?hy6r35n1q9⟩) (by assumption) ?hr6r35n1q9
        case hy6r35n1q9 => (intro w hSw; (try dsimp only at hSw); (obtain ⟨s0, s1, s2, s3, s4, s5⟩ := step_cells hSw); first | (go_simp; done) | (go_simp; with_reducible rfl))
        refine wpAnyH_done (by kernel_rfl) ?_ _
        clear hHeld
        refine NoPanic.normal ?_
        (try dsimp only [Exit.inBlock, Exit.then])
        apply_assumption
        go_wp2
        exact ⟨rfl, rfl, by kernel_rfl, by kernel_rfl, by kernel_rfl, by kernel_rfl, by kernel_rfl, j, wearD D st.i, _, _, _, _, ⟨jp, by kernel_rfl⟩, ⟨rp, by kernel_rfl⟩, jok.mono (by omega), (wear_len D st.i).trans hDl, hM2⟩
      have b5 : (kd == 5) = false := by simp [k5]
      clear k1 k2 k3 k4 k5
      go_wp2
      exact ⟨rfl, rfl, by kernel_rfl, by kernel_rfl, by kernel_rfl, by kernel_rfl, by kernel_rfl, j, D, _, _, _, _, ⟨jp, by kernel_rfl⟩, ⟨rp, by kernel_rfl⟩, jok.mono (by omega), hDl, HM0.out⟩
    rintro ⟨tB, dB⟩ W ⟨h190, hds, e5, e7, e69, e70, e71, j', D', B', B2', l1, l2, ⟨jp', e9⟩, ⟨rp', e11⟩, jok', hDl', hM'⟩
    simp only at h190 hds e5 e7 e69 e70 e71 e9 e11 hM'
    subst hds
    rw [e9, e11] at hM'
    (try dsimp only [Exit.then])
    rw [frame190 tB [] h190, e5, e7, e9, e11, e69, e70, e71]
    have hbn : ∃ b nv bv tv, rp' = b ∧ RJIn W l2 b (.pointer (some ⟨rq, 0, none⟩)) nv bv tv j' := by
      obtain ⟨b, nv, bv, tv, hp, hin, _⟩ := hM'.rn
      injection hp with hp
      injection hp with hp
      injection hp with hp
      exact ⟨b, nv, bv, tv, hp, hin⟩
    obtain ⟨_, nv, bv, tv, rfl, hin⟩ := hbn
    have c6 := hin.cells.2.2.2.2.2.2
    have HSM := hidep (fun Y (hY : Below W.heap.size W Y) => same_any _ _ _ _ j' D' Y _ _ _ _ _ _ n (n + (i + 1)) (hM'.below hY).jn.at (hM'.below hY).rn.at (hM'.below hY).dk (hM'.below hY).rk jok' (by omega))
    have HF := hidep (show ∀ Y, Below W.heap.size W Y → MsI n L.length w0 dhi ehi (.pointer (some ⟨q, 0, none⟩)) (.pointer (some ⟨rq, 0, none⟩)) (.pointer (some ⟨jp', 0, none⟩)) (.pointer (some ⟨rp', 0, none⟩)) (.int .i64 ((i + 1 : Nat) : Int)) Y from fun Y hY =>
      ⟨i + 1, j', D', _, _, _, _, by omega, rfl, ⟨jp', rfl⟩, ⟨rp', rfl⟩, jok', hDl', hM'.below hY⟩)
    obtain ⟨cl, hcl⟩ : ∃ cl, cl = j'.closed := ⟨_, rfl⟩
    rw [← hcl] at c6
    clear h190 e5 e7 e9 e11 e69 e70 e71 hM' hin hcl HM0 c0 c1 c2 c3 c4 c5 hqE
    cases cl with
    | true =>
      go_wp2
      refine ⟨LoopI.mk rfl ⟨rfl, rfl, rfl, rfl, rfl, HF.out _ (Below.refl _ _)⟩, ?_⟩
      show L.length - _ < L.length - _
      simp [natI]; omega
    | false =>
      go_wp2_with (first
        | (go_at_call 14; refine (HSM.out _ (Below.refl _ _)).mono ?_; rintro e w9 ⟨rfl, hb9⟩)
        | fail)
      refine ⟨LoopI.mk rfl ⟨rfl, rfl, rfl, rfl, rfl, HF.out _ hb9⟩, ?_⟩
      show L.length - _ < L.length - _
      simp [natI]; omega
  · have hiki : ¬ (i : Int) < (k : Int) := by omega
    have hw := hM.bel
    have H1 : Hid (∀ X, Below wr.heap.size wr X → Calls Tryz.prog 19 #[.pointer (some ⟨q, 0, none⟩)] X fun e w' => ∃ v, e = .returned v ∧ StrsAt w' v (imageZ D) ∧ Below X.heap.size X w') := hidep (fun X hX => (image_any _ D X _ _ (hM.below hX).dk).mono (fun e w' ⟨v, he, _, hr, hb⟩ => ⟨_, he, image_strs hr hM.dk.ok, hb⟩))
    have H2 : Hid (∀ X, Below wr.heap.size wr X → Calls Tryz.prog 36 #[.pointer (some ⟨rq, 0, none⟩)] X fun e w' => ∃ v, e = .returned v ∧ StrsAt w' v (imageZ D) ∧ Below X.heap.size X w') := hidep (fun X hX => (rimage_any _ D X _ _ (hM.below hX).rk).mono (fun e w' ⟨v, he, ho, hb⟩ => ⟨v, he, strs_ownJ ho, hb⟩))
    have HW := hidep hw
    clear hM hjo hDl hi hik hw
    have hX := Below.refl wr.heap.size wr
    go_wp2_with (first
      | (go_at_call 7; refine (HS0.out _ HW.out).mono ?_; rintro e w1 ⟨rfl, hb1⟩; have hX := hX.trans hb1)
      | (go_at_call 19; refine (H1.out _ hX).mono ?_; rintro e w2 ⟨v2, rfl, hv2, hb2⟩; have hX := hX.trans (hb2.mono hX.size))
      | (go_at_call 36; refine (H2.out _ hX).mono ?_; rintro e w3 ⟨v3, rfl, hv3, hb3⟩; have hv2 := hv2.below hb3; have hX := hX.trans (hb3.mono hX.size))
      | (go_at_call 20; refine (sameTexts_t _ _ (imageZ D) _ hv2 hv3).mono ?_; rintro e w4 ⟨rfl, hb4⟩; have hX := hX.trans (hb4.mono hX.size))
      | fail)
    go_ret
    exact ⟨rfl, HBB.out.trans ((HW.out.trans (hX.mono HW.out.size)).mono HBB.out.size)⟩
end Go.Proofs.YtipbkdlekanlmaaGreatDoor
