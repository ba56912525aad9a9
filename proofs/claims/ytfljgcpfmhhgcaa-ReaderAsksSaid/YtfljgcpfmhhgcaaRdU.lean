/- Reader: the contract of the code's cost. -/
import Derived.Test.YtfljgcpfmhhgcaaRdT
namespace Go.Proofs.Ytfljgcpfmhhgcaa
open Go.RowKit Go.Lab
theorem box6_cell {w : World} {b : Nat} {x0 x1 x2 x3 x4 x5 : Value} {t : TypeId} {fz : Nat × Nat} (h : w.heap[b]? = some (.cells #[x0, x1, x2, x3, x4, x5] t fz)) :
    w.cell? ⟨b, 3, none⟩ = some x3 ∧ w.cell? ⟨b, 4, none⟩ = some x4 ∧ w.cell? ⟨b, 5, none⟩ = some x5 := by
  refine ⟨?_, ?_, ?_⟩ <;> simp [World.cell?, h]
theorem wayOf (way : Int) : way = 0 ∨ way = 1 ∨ way = 2 ∨ way = 3 ∨ (¬ way = 0 ∧ ¬ way = 1 ∧ ¬ way = 2 ∧ ¬ way = 3) := by omega
set_option maxRecDepth 100000 in
set_option maxHeartbeats 2000000 in
theorem rcost_any (way : Int) (a b : Pl) (w : World) (ha : PlOk a) (hb : PlOk b) :
    Calls Try.prog 12 #[.int .i64 way, plV a, plV b] w fun e w' => e = .returned (.int .i64 (costZ way a b)) ∧ Below w.heap.size w w' := by
  obtain ⟨ai, af, as_, al, ap, an⟩ := a
  obtain ⟨bi, bf, bs, bl, bp, bn⟩ := b
  obtain ⟨a1, a2, a3, a4, a5, a6⟩ := ha
  obtain ⟨b1, b2, b3, b4, b5, b6⟩ := hb
  simp only at a1 a2 a3 a4 a5 a6 b1 b2 b3 b4 b5 b6
  have hp := farZ_bd a1 a2 b1 b2
  have hk := farZ_bd a3 a4 b3 b4
  have hu := upZ_bd b5 b6
  obtain ⟨hp1, hp2⟩ := hp
  obtain ⟨hk1, hk2⟩ := hk
  obtain ⟨⟨u1, u2⟩, ⟨u3, u4⟩, u5, u6⟩ := hu
  have HB := hidep (show ∀ n, Below w.heap.size w (((w.alloc (.cells #[.int .i64 ai, .int .i64 af, .int .i64 as_, .int .i64 al, .int .i64 ap, .int .i64 an] 26)).alloc (.cells #[.int .i64 bi, .int .i64 bf, .int .i64 bs, .int .i64 bl, .int .i64 bp, .int .i64 bn] 26)).drewN n) from fun n => below_drewN (((Below.refl _ _).alloc (Nat.le_refl _) _).alloc (by simp) _) n)
  unfold plV
  simp only
  by_cases hpp : 0 < farZ ap bp
  all_goals
    rcases wayOf way with rfl | rfl | rfl | rfl | ⟨w0, w1, w2, w3⟩
    all_goals
      go_enter Try.func12, Try.ntmps12
      go_upto_region 1 with (fail)
      go_quiet ((go_at_call 33; refine (rfar_any _ _ _ (by omega) (by omega) (by omega) (by omega)).mono ?_; rintro e w' ⟨rfl, rfl⟩; exact ⟨rfl, _, rfl⟩))
      go_wp2_with (first
        | (go_at_call 34; refine (rup_any _ _ _ (by omega) (by omega) (by omega)).mono ?_; rintro e w' ⟨rfl, rfl⟩)
        | fail)
      all_goals
        go_ret
        refine ⟨ret_val (congrArg (Value.int .i64) ?_), HB.out _⟩
        unfold costZ
        first | (simp [hpp]; done) | (simp [hpp]; omega) | (simp [hpp, *]; done) | (simp [hpp, *]; omega) | (split <;> omega)
set_option maxRecDepth 100000 in
set_option maxHeartbeats 2000000 in
theorem cost30_any (way : Int) (a b : Pl) (w : World) (ha : PlOk a) (hb : PlOk b) :
    Calls Try.prog 13 #[.int .i64 way, plV a, plV b] w fun e w' => e = .returned (.int .i64 (costZ way a b)) ∧ Below w.heap.size w w' := by
  obtain ⟨ai, af, as_, al, ap, an⟩ := a
  obtain ⟨bi, bf, bs, bl, bp, bn⟩ := b
  obtain ⟨a1, a2, a3, a4, a5, a6⟩ := ha
  obtain ⟨b1, b2, b3, b4, b5, b6⟩ := hb
  simp only at a1 a2 a3 a4 a5 a6 b1 b2 b3 b4 b5 b6
  have hu := upZ_bd b5 b6
  obtain ⟨⟨u1, u2⟩, ⟨u3, u4⟩, u5, u6⟩ := hu
  have HB := hidep (show Below w.heap.size w ((w.alloc (.cells #[.int .i64 ai, .int .i64 af, .int .i64 as_, .int .i64 al, .int .i64 ap, .int .i64 an] 26)).alloc (.cells #[.int .i64 bi, .int .i64 bf, .int .i64 bs, .int .i64 bl, .int .i64 bp, .int .i64 bn] 26)) from ((Below.refl _ _).alloc (Nat.le_refl _) _).alloc (by simp) _)
  have m1 : ∀ x y : Int, max x y - min x y = farZ x y := fun x y => by unfold farZ; omega
  unfold plV
  simp only
  rcases wayOf way with rfl | rfl | rfl | rfl | ⟨w0, w1, w2, w3⟩
  all_goals
    go_enter Try.func13, Try.ntmps13
    go_wp2_with (first
      | (go_at_call 28; refine (up30_any _ _ _ (by omega) (by omega) (by omega)).mono ?_; rintro e w' ⟨rfl, rfl⟩)
      | fail)
    all_goals
      go_ret
      refine ⟨ret_val (congrArg (Value.int .i64) ?_), HB.out⟩
      clear HB m1
      unfold costZ farZ
      (try simp only [bne_iff_ne, ne_eq, bne_eq_false_iff_eq] at *)
      first | (rw [if_pos rfl]; simp only; split <;> omega) | (rw [if_neg (by decide), if_pos rfl]; simp only; split <;> omega) | (rw [if_neg (by decide), if_neg (by decide), if_pos rfl]; simp only; omega) | (rw [if_neg (by decide), if_neg (by decide), if_neg (by decide), if_pos rfl]; simp only; omega) | (rw [if_neg w0, if_neg w1, if_neg w2, if_neg w3]) | grind
end Go.Proofs.Ytfljgcpfmhhgcaa
