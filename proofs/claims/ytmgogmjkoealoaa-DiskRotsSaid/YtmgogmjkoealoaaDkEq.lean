/- Equality of two blocks (arrays of bytes) as the model runs it. -/
import Derived.Test.YtmgogmjkoealoaaDkE
namespace Go.Proofs.Ytmgogmjkoealoaa
open Go.RowKit Go.Lab Go.Disk
section
variable {P : Program} (w : World)
theorem run_part_byte {e : TypeId} (he : P.underlying e = some (.int .u8)) (xs : List Int) (j : Nat) (hj : j < xs.length) : (part e (xs.map (Value.int .u8)).toArray j).run P w = .ok (.int .u8 (xs.getD j 0)) w := by
  unfold part
  have hagg : (isAgg e).run P w = .ok false w := by
    unfold isAgg
    rw [Sem.run_bind, run_underlying he w]
    simp
  have hget : (xs.map (Value.int .u8)).toArray[j]? = some (.int .u8 (xs.getD j 0)) := by
    simp [hj]
  simp only [Sem.run_bind, hagg, Result.andThen_ok, Bool.false_eq_true, if_false, hget, Sem.run_pure]
/-- the loop over the elements, from i on -/
def eqBytes (d : Nat) (e : TypeId) (n : Nat) (xs ys : Array Value) : List Nat → Sem Bool
  | [] => pure true
  | i :: is => do
    let a ← part e xs (i * n)
    let b ← part e ys (i * n)
    let r ← Op.equalIn d e a b
    if (!r) = true then pure false else eqBytes d e n xs ys is
theorem run_equalIn_arr (d n : Nat) (t e : TypeId) (k : Nat) (xs ys : Array Value) (ht : P.underlying t = some (.array k e)) (hs : ∀ w, (sizeOf e).run P w = .ok n w) :
    (Op.equalIn (d + 1) t (.agg xs) (.agg ys)).run P w = (eqBytes d e n xs ys (List.range' 0 k)).run P w := by
  simp only [Op.equalIn, Sem.run_bind, run_underlying ht, Result.andThen_ok, hs]
  rw [Std.Legacy.Range.forIn_eq_forIn_range']
  simp only [Std.Legacy.Range.size, Nat.sub_zero, Nat.add_sub_cancel, Nat.div_one]
  generalize List.range' 0 k = is
  clear ht
  induction is generalizing w with
  | nil => simp [eqBytes]
  | cons i is ih =>
    simp only [List.forIn_cons, eqBytes, Sem.run_bind, Sem.run_ite]
    generalize (part e xs (i * n)).run P w = r1
    cases r1 with
    | ok a w1 =>
      simp only [Result.andThen_ok]
      generalize (part e ys (i * n)).run P w1 = r2
      cases r2 with
      | ok b w2 =>
        simp only [Result.andThen_ok]
        generalize (Op.equalIn d e a b).run P w2 = r3
        cases r3 with
        | ok r w3 =>
          cases r
          · simp only [Result.andThen_ok, Bool.not_false, if_true, Sem.run_pure]
          · simp only [Result.andThen_ok, Bool.not_true, Bool.false_eq_true, if_false, Sem.run_pure]
            exact ih w3
        | halt x w3 => simp [Result.andThen]
      | halt x w2 => simp [Result.andThen]
    | halt x w1 => simp [Result.andThen]
theorem run_eqBytes {e : TypeId} (he : P.underlying e = some (.int .u8)) (d : Nat) (xs ys : List Int) (hl : xs.length = ys.length) : ∀ (m i : Nat), i + m = xs.length →
    (eqBytes (d + 1) e 1 (xs.map (Value.int .u8)).toArray (ys.map (Value.int .u8)).toArray (List.range' i m)).run P w = .ok (decide (xs.drop i = ys.drop i)) w
  | 0, i, h => by
    have h1 : xs.drop i = [] := List.drop_eq_nil_of_le (by omega)
    have h2 : ys.drop i = [] := List.drop_eq_nil_of_le (by omega)
    simp [List.range', eqBytes, h1, h2]
  | m + 1, i, h => by
    have hi : i < xs.length := by omega
    have hi2 : i < ys.length := by omega
    rw [List.range'_succ, eqBytes]
    simp only [Nat.mul_one, Sem.run_bind, run_part_byte w he xs i hi, run_part_byte w he ys i hi2, Result.andThen_ok, run_equalIn_int w d e .u8 .u8 _ _ he, Sem.run_ite, Sem.run_pure]
    rw [run_eqBytes he d xs ys hl m (i + 1) (by omega), List.drop_eq_getElem_cons (l := xs) hi, List.drop_eq_getElem_cons (l := ys) hi2]
    have e1 : xs.getD i 0 = xs[i] := by simp [hi]
    have e2 : ys.getD i 0 = ys[i] := by simp [hi2]
    rw [e1, e2]
    generalize xs[i] = a
    generalize ys[i] = b
    by_cases hq : a = b
    · subst hq; simp
    · have : (a == b) = false := by simpa using hq
      simp [this, hq]
end
theorem size_byte (w : World) : (sizeOf 5).run Try.prog w = .ok 1 w := by kernel_rfl
theorem neq_block (w : World) (s t : ByteArray) (hs : s.size = 64) (ht : t.size = 64) : (binOp .neq 74 (.agg (cellsB s).toArray) (.agg (cellsB t).toArray)).run Try.prog w = .ok (.bool (!decide (s = t))) w := by
  rw [run_neq_struct, show (10000 : Nat) = (9998 + 1) + 1 from rfl, run_equalIn_arr w (9998 + 1) 1 74 5 64 _ _ Try.underlying74 size_byte]
  unfold cellsB
  rw [run_eqBytes w Try.underlying5 9998 (nums s) (nums t) (by rw [nums_len, nums_len, hs, ht]) 64 0 (by rw [nums_len, hs])]
  simp only [Result.andThen_ok, List.drop_zero]
  congr 3
  by_cases h : s = t
  · subst h; simp
  · have : ¬ nums s = nums t := fun e => h (nums_inj e)
    rw [decide_eq_false h, decide_eq_false this]
theorem guard_block (op : BinOp) (x y : Operand) (xs ys : Array Value) (w : World) : (eqGuard op 74 x y (.agg xs) (.agg ys)).run Try.prog w = .ok () w :=
  run_eqGuard_agg w op 74 x y xs ys (by kernel_rfl)
end Go.Proofs.Ytmgogmjkoealoaa
