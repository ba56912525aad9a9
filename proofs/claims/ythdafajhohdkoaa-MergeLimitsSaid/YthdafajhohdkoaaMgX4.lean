/- The law MergeEdits returns true. -/
import Derived.Test.YthdafajhohdkoaaMgPh
import Derived.Test.YthdafajhohdkoaaMgPf
import Derived.Test.YthdafajhohdkoaaMgX2
namespace Go.Proofs.Ythdafajhohdkoaa
open Go.RowKit Go.Lab
theorem bent_txt (v : Value) (l : List Edit) (which how by_ : Int) (w : World) (h : EditsAt w v l) (hl : l.length ≤ 40) (i : -9223372036854775808 ≤ which ∧ which ≤ 9223372036854775807) (j : -9223372036854775808 ≤ how ∧ how ≤ 9223372036854775807) (k : -9223372036854775808 ≤ by_ ∧ by_ ≤ 9223372036854775807) :
    Calls Try.prog 11 #[v, .int .i64 which, .int .i64 how, .int .i64 by_] w fun e w' => ∃ u es, e = .returned u ∧ EditsAt w' u es ∧ es.length ≤ l.length + 33 ∧ Below w.heap.size w w' :=
  bent34_any v l which how by_ w h hl i.1 i.2 j.1 j.2 k.1 k.2
set_option maxRecDepth 100000 in
set_option maxHeartbeats 4000000 in
theorem lawEdits_any (v0 v1 v2 : Value) (l m k : List Int) (which how by_ : Int) (w : World) (h0 : IntsAt w v0 l) (h1 : IntsAt w v1 m) (h2 : IntsAt w v2 k)
    (i3 : -9223372036854775808 ≤ which ∧ which ≤ 9223372036854775807) (i4 : -9223372036854775808 ≤ how ∧ how ≤ 9223372036854775807) (i5 : -9223372036854775808 ≤ by_ ∧ by_ ≤ 9223372036854775807) :
    Calls Try.prog 3 #[v0, v1, v2, .int .i64 which, .int .i64 how, .int .i64 by_] w fun e w' => e = .returned (.bool true) ∧ Below w.heap.size w w' := by
  have hlen := symsZ_len l
  have H0 := hidep (syms_txt v0 l w h0)
  generalize symsZ l = base at *
  have h7 : -9223372036854775808 ≤ wrap64 (how.tdiv 7) ∧ wrap64 (how.tdiv 7) ≤ 9223372036854775807 := by
    unfold wrap64
    omega
  have H7 := hidep h7
  have I3 := hidep i3
  have I4 := hidep i4
  have I5 := hidep i5
  clear h7 i3 i4 i5
  go_enter Try.func3, Try.ntmps3
  go_upto_region 2 with (go_at_call 9; refine H0.out.mono ?_; rintro e w1 ⟨ab, cb, rfl, hS, hb1⟩)
  go_upto_region 3 with (go_at_call 10; refine (some_txt v1 m _ _ _ (h1.below hb1) (by omega)).mono ?_; rintro e w2 ⟨va, a, rfl, hA, hva, sa, hb2⟩)
  have hB2 := hb1.trans (hb2.mono hb1.size)
  go_upto_region 4 with (go_at_call 10; refine (some_txt v2 k _ _ _ (h2.below hB2) (by omega)).mono ?_; rintro e w3 ⟨vb, b, rfl, hBb, hvb, sb, hb3⟩)
  have hB3 := hB2.trans (hb3.mono hB2.size)
  replace hS := (hS.below hb2).below hb3
  replace hA := hA.below hb3
  have hal := sa.len
  clear h0 h1 h2 H0 hva hvb sa sb
  go_upto_region 5 with (go_at_call 11; refine (bent_txt va a _ _ _ _ hA (by omega) I3.out I4.out I5.out).mono ?_; rintro e w4 ⟨vo, od, rfl, hO, hol, hb4⟩)
  obtain ⟨qa, ka, rfl, _, _⟩ := hA.form
  obtain ⟨qb, kb, rfl, _, _⟩ := hBb.form
  obtain ⟨qo, ko, rfl, _, _⟩ := hO.form
  go_upto_region 6 with (go_at_call 11; refine (bent_txt _ od _ _ _ _ hO (by omega) I5.out H7.out I3.out).mono ?_; rintro e w5 ⟨vp, op, rfl, hP, hpl, hb5⟩; obtain ⟨qp, kp, rfl, _, _⟩ := hP.form)
  replace hS := (hS.below hb4).below hb5
  replace hA := (hA.below hb4).below hb5
  replace hBb := (hBb.below hb4).below hb5
  replace hO := hO.below hb5
  have hB5 := hB3.trans ((hb4.trans (hb5.mono hb4.size)).mono hB3.size)
  have hn := heap_alloc_new w5 (.cells #[.slice qa a.length ka, .slice qb b.length kb, .slice qo od.length ko, .slice qp op.length kp, .slice none 0 0] 25)
  have hbo : Below w5.heap.size w5 (w5.alloc (.cells #[.slice qa a.length ka, .slice qb b.length kb, .slice qo od.length ko, .slice qp op.length kp, .slice none 0 0] 25)) := (Below.refl _ _).alloc (Nat.le_refl _) _
  have HV : Hid (∀ i : Nat, i < 5 → ∃ u es, EditsAt (w5.alloc (.cells #[.slice qa a.length ka, .slice qb b.length kb, .slice qo od.length ko, .slice qp op.length kp, .slice none 0 0] 25)) u es ∧ (w5.alloc (.cells #[.slice qa a.length ka, .slice qb b.length kb, .slice qo od.length ko, .slice qp op.length kp, .slice none 0 0] 25)).cell? ⟨w5.heap.size, i, none⟩ = some u) := hidep (fun i hi => by
    rcases (show i = 0 ∨ i = 1 ∨ i = 2 ∨ i = 3 ∨ i = 4 by omega) with rfl | rfl | rfl | rfl | rfl
    · exact ⟨_, a, hA.below hbo, by unfold World.cell?; rw [hn]; rfl⟩
    · exact ⟨_, b, hBb.below hbo, by unfold World.cell?; rw [hn]; rfl⟩
    · exact ⟨_, od, hO.below hbo, by unfold World.cell?; rw [hn]; rfl⟩
    · exact ⟨_, op, hP.below hbo, by unfold World.cell?; rw [hn]; rfl⟩
    · exact ⟨_, [], EditsAt.nil _, by unfold World.cell?; rw [hn]; rfl⟩)
  have HS := hidep (hS.below hbo)
  have HB := hidep (hB5.trans (hbo.mono hB5.size))
  have hbl := lt_of_block hn
  clear hA hBb hO hP hn hbo hB5 hb5 hb4 hB3 hB2 hb3 hb2 hb1 hS hal hol hpl H7 I3 I4 I5
  go_wp2
  obtain ⟨w6, hw6⟩ : ∃ w6, w5.alloc (.cells #[.slice qa a.length ka, .slice qb b.length kb, .slice qo od.length ko, .slice qp op.length kp, .slice none 0 0] 25) = w6 := ⟨_, rfl⟩
  obtain ⟨B5, hB5⟩ : ∃ B5, w5.heap.size = B5 := ⟨_, rfl⟩
  rw [hw6] at HV HS HB hbl ⊢
  rw [hB5] at HV hbl ⊢
  clear hw6 hB5
  go_loopw [18] (fun i wr => ∃ k : Nat, k ≤ 5 ∧ i = .int .i64 k ∧ Below w6.heap.size w6 wr) (fun i _ => 5 - (intOf i).toNat)
  case atStart => exact ⟨0, by omega, rfl, Below.refl _ _⟩
  case round =>
    obtain ⟨i, hi, rfl, hbw⟩ := hrel
    obtain ⟨wo, hwo⟩ : ∃ wo : World, wo = wr := ⟨_, rfl⟩
    subst hwo
    by_cases hlt : i < 5
    · obtain ⟨u, es, hu, huc⟩ := HV.out i hlt
      have hi5 : (i : Int) < 5 := by omega
      have HU := hidep hu
      clear hu
      go_wp2
      go_loopw [19] (fun j wi => ∃ k : Nat, k ≤ 5 ∧ j = .int .i64 k ∧ Below w6.heap.size w6 wi) (fun j _ => 5 - (intOf j).toNat)
      case atStart => exact ⟨0, by omega, rfl, hbw⟩
      case round =>
        obtain ⟨j, hj, rfl, hbi⟩ := hrel
        by_cases hlj : j < 5
        · obtain ⟨x, fs, hx, hxc⟩ := HV.out j hlj
          have hj5 : (j : Int) < 5 := by omega
          have hj0 : 0 ≤ (j : Int) := by omega
          have hi0 : 0 ≤ (i : Int) := by omega
          have HAL := hidep (fun W (hW : Below wr.heap.size wr W) => all_any _ u x base es fs W (HS.out.below (hbi.trans (hW.mono hbi.size))) (HU.out.below (hbi.trans (hW.mono hbi.size))) (hx.below (hbi.trans (hW.mono hbi.size))))
          have hc1 := (hbi.cell (p := ⟨B5, i, none⟩) hbl).trans huc
          have hc2 := (hbi.cell (p := ⟨B5, j, none⟩) hbl).trans hxc
          have HD := hidep (Below.refl wr.heap.size wr).drew
          clear hx
          go_upto_region 12 with (fail)
          go_region_held3 (fun w' => w'.cell? ⟨B5, i, none⟩ = some u ∧ w'.cell? ⟨B5, j, none⟩ = some x)
            (first | exact ⟨hc1, hc2⟩ | exact hall | go_keep)
            (first
              | (go_at_call 12; refine (HAL.out _ (by first | exact HD.out | exact below_drewN (Below.refl _ _) _)).mono ?_; rintro e w7 ⟨rfl, hb7⟩; have hall : w7.cell? ⟨B5, i, none⟩ = some u ∧ w7.cell? ⟨B5, j, none⟩ = some x := ⟨(hb7.cell (p := ⟨B5, i, none⟩) (Nat.lt_of_lt_of_le hbl hbi.size)).trans hc1, (hb7.cell (p := ⟨B5, j, none⟩) (Nat.lt_of_lt_of_le hbl hbi.size)).trans hc2⟩; dsimp only)
              | fail)
          all_goals
            go_wp2
            go_roundw
            case rel => exact ⟨j + 1, by omega, by go_num, hbi.trans (Below.mono (by first | exact HD.out.trans hb7 | exact (below_drewN (Below.refl _ _) _).trans hb7) hbi.size)⟩
            case measure => simp [intOf]; omega
        · have hj5 : j = 5 := by omega
          subst hj5
          go_wp2
          go_roundw
          case rel => exact ⟨i + 1, by omega, by go_num, hbi⟩
          case measure => simp [intOf]; omega
    · have hi5 : i = 5 := by omega
      subst hi5
      have HL := hidep (lives_any wo)
      go_wp2_with (first
        | (go_at_call 13; refine HL.out.mono ?_; rintro e w8 ⟨rfl, hb8⟩)
        | fail)
      go_ret
      exact ⟨rfl, HB.out.trans ((hbw.trans (hb8.mono hbw.size)).mono HB.out.size)⟩
end Go.Proofs.Ythdafajhohdkoaa
