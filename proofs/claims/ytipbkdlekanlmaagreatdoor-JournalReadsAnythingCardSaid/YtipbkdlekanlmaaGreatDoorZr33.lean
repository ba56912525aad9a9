/- Journal: the walk of the law JournalReadsAnything. -/
import Derived.Test.YtipbkdlekanlmaaGreatDoorZr31
import Derived.Test.YtipbkdlekanlmaaGreatDoorZr03
import Derived.Test.YtipbkdlekanlmaaGreatDoorZr19
import Derived.Test.YtipbkdlekanlmaaGreatDoorZr32
namespace Go.Proofs.YtipbkdlekanlmaaGreatDoor
open Go.RowKit Go.Lab Go.Disk Go.Jn
attribute [local go_sem] Oper.semAt_some
set_option maxRecDepth 100000
theorem range_map78 (f : Nat → Value) : (List.range 78).map f = [f 0, f 1, f 2, f 3, f 4, f 5, f 6, f 7, f 8, f 9, f 10, f 11, f 12, f 13, f 14, f 15, f 16, f 17, f 18, f 19, f 20, f 21, f 22, f 23, f 24, f 25, f 26, f 27, f 28, f 29, f 30, f 31, f 32, f 33, f 34, f 35, f 36, f 37, f 38, f 39, f 40, f 41, f 42, f 43, f 44, f 45, f 46, f 47, f 48, f 49, f 50, f 51, f 52, f 53, f 54, f 55, f 56, f 57, f 58, f 59, f 60, f 61, f 62, f 63, f 64, f 65, f 66, f 67, f 68, f 69, f 70, f 71, f 72, f 73, f 74, f 75, f 76, f 77] := rfl
theorem frame78 (t : Array Value) (ds : List Deferred) (h : t.size = 78) : ({ tmps := t, defers := ds } : Act) = { tmps := #[slot t 0, slot t 1, slot t 2, slot t 3, slot t 4, slot t 5, slot t 6, slot t 7, slot t 8, slot t 9, slot t 10, slot t 11, slot t 12, slot t 13, slot t 14, slot t 15, slot t 16, slot t 17, slot t 18, slot t 19, slot t 20, slot t 21, slot t 22, slot t 23, slot t 24, slot t 25, slot t 26, slot t 27, slot t 28, slot t 29, slot t 30, slot t 31, slot t 32, slot t 33, slot t 34, slot t 35, slot t 36, slot t 37, slot t 38, slot t 39, slot t 40, slot t 41, slot t 42, slot t 43, slot t 44, slot t 45, slot t 46, slot t 47, slot t 48, slot t 49, slot t 50, slot t 51, slot t 52, slot t 53, slot t 54, slot t 55, slot t 56, slot t 57, slot t 58, slot t 59, slot t 60, slot t 61, slot t 62, slot t 63, slot t 64, slot t 65, slot t 66, slot t 67, slot t 68, slot t 69, slot t 70, slot t 71, slot t 72, slot t 73, slot t 74, slot t 75, slot t 76, slot t 77], defers := ds } := by
  have e : t = ((List.range 78).map (slot t)).toArray := by
    apply Array.ext
    · simp [h]
    · intro i h1 h2
      simp [slot, Array.getD, h1]
  rw [range_map78] at e
  exact congrArg (fun x => ({ tmps := x, defers := ds } : Act)) e
theorem write_fineD {D : Dk} (h : Dk.Fine D) (i : Int) (s : ByteArray) : Dk.Fine (writeD D i s) := by
  unfold writeD
  rw [(step_fine h).1, (step_fine h).2]
  split
  · exact h
  split
  · exact h
  split
  · exact h
  split
  · exact h
  · exact h
def RwI (n k : Nat) (w : World) (dlo dhi elo ehi : Nat) (dv rv iv : Value) (wr : World) : Prop := ∃ (i : Nat) (D : Dk), i ≤ k ∧ iv = .int .i64 (i : Nat) ∧ DiskAt wr dlo dhi dv D ∧ RDiskAt wr elo ehi rv D ∧ Dk.Fine D ∧ D.s.length = n ∧ Below w.heap.size w wr
set_option maxHeartbeats 8000000 in
theorem reads_any (v : Value) (L : List ByteArray) (w : World) (hL : StrsAt w v L) (hz : ∀ s ∈ L, s.size ≤ maxLen) (hk : w.rangeAt 2 0 (u32C ks0)) (hkr : w.rangeAt 0 0 (u32C ks0)) :
    Calls Tryz.prog 3 #[v] w fun e w' => e = .returned (.bool true) ∧ Below w.heap.size w w' := by
  have HK := hidep (And.intro hk hkr)
  have HS := hidep (fun Y (hY : Below w.heap.size w Y) => sanity_any Y (HK.out.1.below hY))
  clear hk hkr
  obtain ⟨sa, sc, rfl, hsl, hsc⟩ := hL.form
  have HL := hidep (And.intro hL hz)
  unfold maxLen at hsc
  clear hL hz
  obtain ⟨n, hnd⟩ : ∃ n, n = L.length := ⟨_, rfl⟩
  rw [← hnd] at hsl ⊢
  have HN := hidep hnd
  clear hnd
  by_cases h1 : 40 < n
  · have g1 : (n : Int) > 40 := by omega
    go_enter Tryz.func3, Tryz.ntmps3
    go_wp2_with (first
      | (go_at_call 7; refine (HS.out _ (Below.refl _ _)).mono ?_; rintro e w1 ⟨rfl, hb1⟩)
      | fail)
    go_ret
    exact ⟨rfl, hb1⟩
  have g1 : ¬ (n : Int) > 40 := by omega
  by_cases h2 : n = 0
  · have g2 : ((n : Int) == 0) = true := by simp [h2]
    clear h1
    go_enter Tryz.func3, Tryz.ntmps3
    go_wp2_with (first
      | (go_at_call 7; refine (HS.out _ (Below.refl _ _)).mono ?_; rintro e w1 ⟨rfl, hb1⟩)
      | fail)
    go_ret
    exact ⟨rfl, hb1⟩
  have g2 : ((n : Int) == 0) = false := by simp; omega
  have hn1 : 1 ≤ n ∧ n ≤ 40 := by omega
  have HN1 := hidep (fun Y => new_any n Y hn1.1 (by omega))
  have HN2 := hidep (fun Y => rnew_any n Y hn1.1 (by omega))
  clear h1 h2
  go_enter Tryz.func3, Tryz.ntmps3
  go_upto_region 8 with (first
    | (go_at_call 8; refine (HN1.out _).mono ?_; rintro e w1 ⟨dv, rfl, hd1, hb1⟩)
    | (go_at_call 9; refine (HN2.out _).mono ?_; rintro e w2 ⟨rv, rfl, hr2, hb2⟩)
    | fail)
  clear g1 g2
  obtain ⟨q, rfl⟩ := disk_ptr hd1
  obtain ⟨rq, rfl⟩ := rdisk_ptr hr2
  obtain ⟨dhi, hdh⟩ : ∃ dhi, dhi = w1.heap.size := ⟨_, rfl⟩
  obtain ⟨ehi, heh⟩ : ∃ ehi, ehi = w2.heap.size := ⟨_, rfl⟩
  have hd2 := hd1.below hb2
  rw [← hdh] at hd2 hr2
  rw [← heh] at hr2
  have hlw : w.heap.size ≤ dhi := by rw [hdh]; exact hb1.size
  have hbw2 := hb1.trans (hb2.mono hb1.size)
  clear hdh heh HN1 HN2 hd1 hb1 hb2
  refine wp_loop (LoopI 78 (fun tm ds wr => (slot tm 0) = .slice sa n sc ∧ (slot tm 3) = .pointer (some ⟨q, 0, none⟩) ∧ (slot tm 5) = .pointer (some ⟨rq, 0, none⟩) ∧ (slot tm 40) = .slice sa n sc ∧ (slot tm 41) = .int .i64 (n : Nat) ∧ ds = [] ∧ RwI n n w w.heap.size dhi dhi ehi (.pointer (some ⟨q, 0, none⟩)) (.pointer (some ⟨rq, 0, none⟩)) (slot tm 42) wr)) (fun a' wr => n - natI (a'.tmps.getD 42 undef)) ?wr1Start ?wr1Round
  case' wr1Start => refine LoopI.mk rfl ?_
  case' wr1Round => (rintro ⟨t, ds⟩ wr ⟨hts, hrel⟩; dsimp only at hts hrel; rw [frame78 t ds hts])
  case wr1Start => exact ⟨rfl, rfl, rfl, rfl, rfl, rfl, 0, newD n, Nat.zero_le _, rfl, hd2, hr2, ⟨rfl, rfl⟩, by simp [newD], hbw2⟩
  clear hd2 hr2 hbw2
  obtain ⟨e0, e3, e5, e40, e41, hds, i, D, hi, e42, hd, hr, hfi, hDl, hbw⟩ := hrel
  subst hds
  rw [e0, e3, e5, e40, e41, e42]
  clear e0 e3 e5 e40 e41 e42 hts
  by_cases hin : i < n
  · have hini : (i : Int) < (n : Int) := by omega
    have hi0 : (0 : Int) ≤ (i : Int) := by omega
    have hiL : i < L.length := by rw [← HN.out]; exact hin
    have hsr := HL.out.1.below hbw
    rw [← HN.out] at hsr
    obtain ⟨g, o, rfl, hg, hcell⟩ := hsr.at (by omega)
    have hci := hcell i (.string L[i]) (strsC_get L i hiL)
    have hsz := HL.out.2 L[i] (List.getElem_mem hiL)
    obtain ⟨s, hs⟩ : ∃ s, s = L[i] := ⟨_, rfl⟩
    rw [← hs] at hci hsz
    obtain ⟨er, her⟩ : ∃ er, er = writeE D (i : Int) s := ⟨_, rfl⟩
    have HW := hidep (write_any (.pointer (some ⟨q, 0, none⟩)) D (i : Int) s wr w.heap.size dhi hd hsz (by omega))
    have HWR := hidep (fun Y (hY : Turn w.heap.size dhi wr Y) => rwrite_any (.pointer (some ⟨rq, 0, none⟩)) D (i : Int) s Y dhi ehi (hr.keep hY (.inr (Nat.le_refl _))) hsz)
    rw [← her] at HW HWR
    have hee : (er != er) = false := by simp
    have HF := hidep (And.intro hfi (And.intro hDl hbw))
    clear hs her hcell hsr hd hr hfi hDl hbw hsz
    go_wp2_with (first
      | (go_at_call 10; refine HW.out.mono ?_; rintro e w5 ⟨rfl, hd5, hT5⟩)
      | (go_at_call 11; refine (HWR.out _ hT5).mono ?_; rintro e w6 ⟨rfl, hr6, hT6⟩)
      | fail)
    refine ⟨LoopI.mk rfl ⟨rfl, rfl, rfl, rfl, rfl, rfl, i + 1, _, by omega, by show Value.int _ _ = _; go_num, hd5.keep hT6 (.inl (Nat.le_refl _)), hr6, write_fineD HF.out.1 _ _, by rw [write_len]; exact HF.out.2.1, (HF.out.2.2.trans (hT5.below (Nat.le_refl _) HF.out.2.2.size)).trans (hT6.below hlw (by have := HF.out.2.2.size; have := hT5.size; omega))⟩, ?_⟩
    show n - _ < n - _
    simp [natI]; omega
  · have hini : ¬ (i : Int) < (n : Int) := by omega
    have HO := hidep (open_any (.pointer (some ⟨q, 0, none⟩)) D wr _ _ hd hfi.1 (HK.out.1.below hbw))
    have HOR := hidep (fun Y (hY : Below wr.heap.size wr Y) => openR_any (.pointer (some ⟨rq, 0, none⟩)) D Y _ _ (hr.below hY) hfi.1 (HK.out.2.below (hbw.trans (hY.mono hbw.size))))
    have hjok := open_ok D
    rw [hDl] at hjok
    have HF := hidep (And.intro hd (And.intro hr (And.intro hbw hjok)))
    clear hd hr hfi hDl hbw hjok hi hin
    go_upto_region 15 with (first
      | (go_at_call 12; refine HO.out.mono ?_; rintro e w7 ⟨pj, rfl, hj7, hb7⟩)
      | (go_at_call 13; refine (HOR.out _ hb7).mono ?_; rintro e w8 ⟨pr, rfl, hr8, hb8⟩)
      | fail)
    obtain ⟨jb, rfl⟩ := jat_ptr' hj7
    obtain ⟨rb, rfl⟩ := rjat_ptr hr8
    have hb78 := hb7.trans (hb8.mono hb7.size)
    have hw8 := HF.out.2.2.1.trans (hb78.mono HF.out.2.2.1.size)
    have HSM := hidep (fun Y (hY : Below w8.heap.size w8 Y) => same_any _ _ _ _ (openZ D) D Y _ _ _ _ _ _ n n ((hj7.below hb8).below hY) (hr8.below hY) ((HF.out.1.below hb78).below hY) ((HF.out.2.1.below hb78).below hY) HF.out.2.2.2 (by omega))
    have HW := hidep hw8
    clear hj7 hr8 hb7 hb8 hb78 hw8 HF HO HOR hini
    go_wp2_with (first
      | (go_at_call 7; refine (HS.out _ HW.out).mono ?_; rintro e w9 ⟨rfl, hb9⟩)
      | (go_at_call 14; refine (HSM.out _ hb9).mono ?_; rintro e w10 ⟨rfl, hb10⟩)
      | fail)
    go_ret
    exact ⟨rfl, (HW.out.trans (hb9.mono HW.out.size)).trans (hb10.mono (by have := HW.out.size; have := hb9.size; omega))⟩
end Go.Proofs.YtipbkdlekanlmaaGreatDoor
