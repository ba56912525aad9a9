/- For all lists of ints and all ints the law LiftLeast returns true, and leaves its arguments as they were: no condition. -/
import Derived.Test.YthhjnafhpmgceaaLiftJ
import Derived.Test.YthhjnafhpmgceaaFrame
namespace Go.Proofs.Ythhjnafhpmgceaa
open Go.RowKit Go.Lab
def TxAt (w : World) (v : Value) : Prop := ∃ l, SymsAt w v l
theorem odd_fresh (w : World) : (w.alloc (.cells #[] 30)).ownsRow w.heap.size 30 2 (.slice (some ⟨w.heap.size, 0, none⟩) 0 0) 0 [] := World.ownsRow_lit w #[] 0 (Nat.le_refl _) (by decide) rfl
set_option maxHeartbeats 4000000 in
set_option maxRecDepth 100000 in
theorem lawA_any (v1 v2 v3 : Value) (l m k : List Int) (most by_ : Int) (w : World) (h1 : IntsAt w v1 l) (h2 : IntsAt w v2 m) (h3 : IntsAt w v3 k)
    (r1 : -9223372036854775808 ≤ most ∧ most ≤ 9223372036854775807) (r2 : -9223372036854775808 ≤ by_ ∧ by_ ≤ 9223372036854775807) :
    Calls Try.prog 3 #[v1, v2, v3, .int .i64 most, .int .i64 by_] w fun e w' => e = .returned (.bool true) ∧ Below w.heap.size w w' := by
  have HP := hidep (pair_any v1 v2 l m w h1 h2)
  have HC : Hid (∀ W, Below w.heap.size w W → Calls Try.prog 8 #[v3] W fun e w' => ∃ u, e = .returned u ∧ SymsAt w' u (symsZ k) ∧ Below W.heap.size W w') := hidep (fun W hW => (syms_any v3 k W (h3.below hW)).mono (fun e w' ⟨u, he, ho, hb⟩ => ⟨u, he, SymsAt.of_own ho, hb⟩))
  have hlen := symsZ_len l
  have ha4 := aroundZ_rng by_ 4 (by omega)
  have ha9 := aroundZ_rng most 9 (by omega)
  have HR2 := hidep r2
  have HR1 := hidep r1
  generalize hA4 : aroundZ by_ 4 = a4 at *
  generalize hA9 : aroundZ most 9 = a9 at *
  have HA4 : Hid (∀ W, Calls Try.prog 9 #[.int .i64 by_, .int .i64 4] W fun e w' => e = .returned (.int .i64 a4) ∧ W = w') := hidep (fun W => by rw [← hA4]; exact around_any by_ 4 W r2.1 r2.2)
  have HA9 : Hid (∀ W, Calls Try.prog 9 #[.int .i64 most, .int .i64 9] W fun e w' => e = .returned (.int .i64 a9) ∧ W = w') := hidep (fun W => by rw [← hA9]; exact around_any most 9 W r1.1 r1.2)
  clear hA4 hA9 h1 h2 h3
  generalize symsZ l = A at *
  go_enter Try.func3, Try.ntmps3
  go_upto_region 3 with (first
    | (go_at_call 7; refine HP.out.mono ?_; rintro e w1 ⟨va, vb, ve, es, rfl, ha, hb, he, hv, hle, hin, hb1⟩)
    | (go_at_call 8; refine (HC.out _ hb1).mono ?_; rintro e w2 ⟨vc, rfl, hc, hb2⟩; have hbw := hb1.trans (hb2.mono hb1.size); have ha := ha.below hb2; have hb := hb.below hb2)
    | fail)
  clear HP HC
  go_cut [15] (fun s15 wc => TxAt wc s15 ∧ Below w2.heap.size w2 wc)
  case first =>
    have hone := symsC_one A
    have hxa : Below w2.heap.size w2 (w2.alloc (.cells #[] 30)) := (Below.refl _ _).alloc (Nat.le_refl _) _
    have ha3 := ha.below hxa
    go_wp2_with (first
      | (at_builtin; refine wpList_append_rd _ rfl (.tmp 26) (.tmp 27) rfl slSyms w2.heap.size (.slice (some ⟨w2.heap.size, 0, none⟩) 0 0) 0 [] rfl (odd_fresh w2) _ _ _ _ rfl ha3 hone (by unfold maxLen; omega) (by omega) (by simp) ?_; intro v3' w3 hown3 hgr3 hat hnl; clear hat hnl; simp only [Nat.zero_add, List.nil_append] at hown3; have hb3 := hxa.grown hgr3 (by simp) (fun g hg => by simp [Value.ownBlock] at hg; omega); obtain ⟨a3, c3, rfl, hc3, hc3'⟩ := (Rd.of_own hown3).form; clear hgr3)
      | (go_at_call 9; refine (HA4.out _).mono ?_; rintro e w' ⟨rfl, rfl⟩)
      | (at_builtin; refine wpList_append_rd _ rfl (.tmp 28) (.tmp 35) rfl slSyms w2.heap.size (.slice a3 A.length c3) _ _ rfl (hown3.alloc _) _ _ _ _ rfl (Rd.fresh w3 #[.int .i64 (a4 - 1), .int .u8 (by_ % 256)] 30 2 1 rfl (by decide)) (by intro u hu; simp at hu; rcases hu with rfl | rfl <;> rfl) (by unfold maxLen; omega) (by omega) (by have := hb3.size; simp; omega) ?_; intro v4' w4 hown4 hgr4 hat hnl; clear hat hnl; have hb4 := (hb3.alloc hb3.size (.cells #[.int .i64 (a4 - 1), .int .u8 (by_ % 256)] 30)).grown hgr4 (by have := hb3.size; simp; omega) (fun g hg => (hown3.lt g hg).1))
      | fail)
    go_meet
    refine ⟨⟨A ++ [⟨a4 - 1, by_ % 256⟩], ?_⟩, hb4⟩
    have := Rd.of_own hown4
    unfold SymsAt
    rw [symsC_append, List.length_append]
    exact this
  case rest =>
    obtain ⟨ho, hbc⟩ := hcut
    have hta : TxAt wc va := ⟨_, ha.below hbc⟩
    have htb : TxAt wc vb := ⟨_, hb.below hbc⟩
    have htc : TxAt wc vc := ⟨_, hc.below hbc⟩
    have htn : TxAt wc (.slice none 0 0) := ⟨[], Rd.nil _ _ _⟩
    have hbw2 := hbw.trans (hbc.mono hbw.size)
    have HS : Hid (∀ (W : World) (u v : Value) (n : Int), Below wc.heap.size wc W → TxAt wc u → TxAt wc v → Calls Try.prog 10 #[u, v, .int .i64 n] W fun e w' => e = .returned (.bool true) ∧ Below wc.heap.size wc w') := hidep (fun W u v n hW ⟨lu, hu⟩ ⟨lv, hv⟩ =>
      (same_any u v lu lv n W (hu.below hW) (hv.below hW)).mono (fun e w' ⟨he, hb⟩ => ⟨he, hW.trans (hb.mono hW.size)⟩))
    have HL : Hid (∀ W : World, Below wc.heap.size wc W → Calls Try.prog 11 #[] W fun e w' => e = .returned (.bool true) ∧ Below wc.heap.size wc w') := hidep (fun W hW =>
      (lives_any W).mono (fun e w' ⟨he, hb⟩ => ⟨he, hW.trans (hb.mono hW.size)⟩))
    have hX := Below.refl wc.heap.size wc
    clear ha hb hc hbc he hb1 hb2 hbw
    go_wp2_with (first
      | (go_at_call 9; refine (HA9.out _).mono ?_; rintro e w' ⟨rfl, rfl⟩)
      | (go_at_call 10; refine (HS.out _ _ _ _ hX (by first | exact hta | exact htb | exact htc | exact ho | exact htn) (by first | exact hta | exact htb | exact htc | exact ho | exact htn)).mono ?_; rintro e wn ⟨rfl, hX⟩)
      | (go_at_call 11; refine (HL.out _ hX).mono ?_; rintro e wn ⟨rfl, hX⟩)
      | fail)
    go_ret
    exact ⟨rfl, hbw2.trans (hX.mono hbw2.size)⟩
end Go.Proofs.Ythhjnafhpmgceaa
