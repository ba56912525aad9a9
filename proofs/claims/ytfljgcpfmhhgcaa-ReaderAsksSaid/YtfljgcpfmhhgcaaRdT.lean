/- Reader: places as plain data, the cost of a move, and the contracts of both costs. -/
import Derived.Test.YtfljgcpfmhhgcaaBase
import Derived.Test.YtfljgcpfmhhgcaaRows
namespace Go.Proofs.Ytfljgcpfmhhgcaa
open Go.RowKit Go.Lab
structure Pl where
  item : Int
  fact : Int
  start : Int
  len : Int
  page : Int
  line : Int
  deriving DecidableEq
def plC (p : Pl) : List Value := [.int .i64 p.item, .int .i64 p.fact, .int .i64 p.start, .int .i64 p.len, .int .i64 p.page, .int .i64 p.line]
def plV (p : Pl) : Value := .agg #[.int .i64 p.item, .int .i64 p.fact, .int .i64 p.start, .int .i64 p.len, .int .i64 p.page, .int .i64 p.line]
/-- The page, the line and the length are small. -/
def PlOk (p : Pl) : Prop := 0 ≤ p.page ∧ p.page ≤ 4194304 ∧ 0 ≤ p.line ∧ p.line ≤ 4194304 ∧ 0 ≤ p.len ∧ p.len ≤ 4194304
def farZ (a b : Int) : Int := max (a - b) (b - a)
def upZ (n by_ : Int) : Int := (n + by_ - 1) / by_
def costZ (way : Int) (a b : Pl) : Int :=
  if way = 0 then farZ a.page b.page + min (if 0 < farZ a.page b.page then b.line else farZ a.line b.line) 3 + upZ b.len 10
  else if way = 1 then 2 * farZ a.page b.page + (if 0 < farZ a.page b.page then b.line else farZ a.line b.line) + upZ b.len 4
  else if way = 2 then farZ a.line b.line + upZ b.len 200
  else if way = 3 then farZ a.line b.line + upZ b.len 4
  else 0
theorem farZ_bd {a b : Int} (h1 : 0 ≤ a) (h2 : a ≤ 4194304) (h3 : 0 ≤ b) (h4 : b ≤ 4194304) : 0 ≤ farZ a b ∧ farZ a b ≤ 4194304 := by unfold farZ; omega
theorem upZ_bd {n : Int} (h1 : 0 ≤ n) (h2 : n ≤ 4194304) : (0 ≤ upZ n 10 ∧ upZ n 10 ≤ 4194304) ∧ (0 ≤ upZ n 4 ∧ upZ n 4 ≤ 4194304) ∧ (0 ≤ upZ n 200 ∧ upZ n 200 ≤ 4194304) := by unfold upZ; omega
theorem costZ_bd {way : Int} {a b : Pl} (ha : PlOk a) (hb : PlOk b) : 0 ≤ costZ way a b ∧ costZ way a b ≤ 20000000 := by
  obtain ⟨a1, a2, a3, a4, a5, a6⟩ := ha
  obtain ⟨b1, b2, b3, b4, b5, b6⟩ := hb
  have h1 := farZ_bd a1 a2 b1 b2
  have h2 := farZ_bd a3 a4 b3 b4
  have h3 := upZ_bd b5 b6
  unfold costZ
  split
  · split <;> omega
  · split
    · split <;> omega
    · split
      · omega
      · split <;> omega
set_option maxHeartbeats 400000 in
theorem rfar_any (a b : Int) (w : World) (h1 : 0 ≤ a) (h2 : a ≤ 4194304) (h3 : 0 ≤ b) (h4 : b ≤ 4194304) : Calls Try.prog 33 #[.int .i64 a, .int .i64 b] w fun e w' => e = .returned (.int .i64 (farZ a b)) ∧ w = w' := by
  go_enter Try.func33, Try.ntmps33
  go_wp2
  all_goals
    go_ret
    refine ⟨ret_val (congrArg (Value.int .i64) ?_), rfl⟩
    unfold farZ
    omega
set_option maxHeartbeats 400000 in
theorem rup_any (n by_ : Int) (w : World) (h1 : 0 ≤ n) (h2 : n ≤ 4194304) (hb : by_ = 10 ∨ by_ = 4 ∨ by_ = 200) : Calls Try.prog 34 #[.int .i64 n, .int .i64 by_] w fun e w' => e = .returned (.int .i64 (upZ n by_)) ∧ w = w' := by
  rcases hb with rfl | rfl | rfl
  all_goals
    go_enter Try.func34, Try.ntmps34
    go_wp2
    go_ret
    exact ⟨ret_val rfl, rfl⟩
set_option maxHeartbeats 400000 in
theorem up30_any (n by_ : Int) (w : World) (h1 : 0 ≤ n) (h2 : n ≤ 4194304) (hb : by_ = 10 ∨ by_ = 4 ∨ by_ = 200) : Calls Try.prog 28 #[.int .i64 n, .int .i64 by_] w fun e w' => e = .returned (.int .i64 (upZ n by_)) ∧ w = w' := by
  rcases hb with rfl | rfl | rfl
  all_goals
    go_enter Try.func28, Try.ntmps28
    go_wp2
    all_goals
      go_ret
      refine ⟨ret_val (congrArg (Value.int .i64) ?_), rfl⟩
      unfold upZ
      rename_i hc
      first | omega | (simp at hc; omega) | (simp [Int.tmod_eq_emod_of_nonneg, h1] at hc; omega)
end Go.Proofs.Ytfljgcpfmhhgcaa
