/- Contract of the reference of package merge: Clash. -/
import Derived.Test.YthdafajhohdkoaaMgPa
import Derived.Test.YthdafajhohdkoaaMgS
import Derived.Test.YthdafajhohdkoaaMgD
namespace Go.Proofs.Ythdafajhohdkoaa
open Go.RowKit Go.Lab
set_option maxHeartbeats 1000000 in
theorem clash34_any (va vb : Value) (a b : List Edit) (w : World) (ha : EditsAt w va a) (hb : EditsAt w vb b) :
    Calls Try.prog 32 #[va, vb] w fun e w' => ∃ v, e = .returned v ∧ w'.ownsRow w.heap.size 45 2 v (clashZ a b).length (pairsC (clashZ a b)) ∧ Below w.heap.size w w' := by
  have HA := hidep (fun W (h : Below w.heap.size w W) => valid34_any _ 2048 a W (ha.below h) (by omega) (by omega))
  have HB := hidep (fun W (h : Below w.heap.size w W) => valid34_any _ 2048 b W (hb.below h) (by omega) (by omega))
  have HC := hidep (fun W (h : Below w.heap.size w W) hva hvb => pairs34_any _ _ a b W (ha.below h) (hb.below h) (validZ_ok (n := 2048) (by omega) hva) (validZ_ok (n := 2048) (by omega) hvb) (clashP_len (n := 2048) (m := 2048) hva hvb))
  have HZ := hidep (show clashZ a b = if validZ 2048 a && validZ 2048 b then clashP a b else [] from rfl)
  clear ha hb
  cases hva : validZ 2048 a <;> cases hvb : validZ 2048 b
  all_goals
    have HVA := hidep hva
    have HVB := hidep hvb
    simp only [hva, hvb] at HA HB HZ
    clear hva hvb
    go_enter Try.func32, Try.ntmps32
    go_wp2_with (first
      | (go_at_call 24; (with_reducible refine (HA.out _ (Below.refl _ _)).mono ?_); clear HA; rintro e w1 ⟨rfl, hb1⟩)
      | (go_at_call 24; (with_reducible refine (HB.out _ hb1).mono ?_); rintro e w2 ⟨rfl, hb2⟩; have hb12 := hb1.trans (hb2.mono hb1.size))
      | (go_at_call 50; refine (HC.out _ hb12 HVA.out HVB.out).mono ?_; rintro e w4 ⟨v, rfl, ho, hb4⟩)
      | fail)
    go_ret
    first
      | exact ⟨_, rfl, by rw [HZ.out]; exact World.ownsRow_nil _ _ _ _, by first | exact hb12 | exact hb1⟩
      | exact ⟨_, rfl, by rw [HZ.out]; exact ownR_base0 ho hb12.size, hb12.trans (hb4.mono hb12.size)⟩
end Go.Proofs.Ythdafajhohdkoaa
