/- Reader, plain: what Check says of a plan with other steps, and of another order. -/
import Derived.Test.YtfljgcpfmhhgcaaRdPm
namespace Go.Proofs.Ytfljgcpfmhhgcaa
open Go.RowKit Go.Lab
theorem last_any {way : Int} {pl : List Pl} {need : List Int} (hok : ∀ p ∈ pl, PlOk p) (hn : need.length ≤ 8) :
    (((tabL way (needL pl need)).getD ((tabL way (needL pl need)).length - 1) []).any fun x => decide (x < restV way (needL pl need) (2 ^ need.length - 1) pl0)) = false := by
  have hnL : (needL pl need).length ≤ 8 := by rw [needL_len]; exact hn
  rw [List.any_eq_false]
  intro x hx
  have e : (tabL way (needL pl need)).getD ((tabL way (needL pl need)).length - 1) [] = rowL way (needL pl need) (2 ^ need.length - 1) := by
    have := full_lt need.length
    simp [tabL, List.getD, needL_len, this]
  rw [e] at hx
  unfold rowL at hx
  obtain ⟨k, hk, rfl⟩ := List.mem_map.1 hx
  rw [List.mem_range, needL_len] at hk
  have := last_le (way := way) (needL_ok hok (need := need)) hnL (s := 2 ^ need.length - 1) (k := k) (by rw [needL_len]; exact full_lt _) (by rw [needL_len]; exact full_mem.2 hk)
  simp only [decide_eq_true_eq]
  omega
/-- Another order of the same facts is accepted exactly if it has the plan's steps. -/
theorem check_perm {way : Int} {pl : List Pl} {need order : List Int} (hok : ∀ p ∈ pl, PlOk p) (ht : taskZ way pl.length need = 0) (hp : order.Perm need) :
    checkZ way pl need order (restV way (needL pl need) (2 ^ need.length - 1) pl0) (tabL way (needL pl need)) = if stepsZ way pl order = restV way (needL pl need) (2 ^ need.length - 1) pl0 then 0 else 19 := by
  obtain ⟨hneed, _, _, hpw⟩ := task_need rfl ht
  have hn := hneed.1
  have hnL : (needL pl need).length ≤ 8 := by rw [needL_len]; exact hn
  unfold checkZ
  rw [if_pos ht, sortZ_need hp hpw, bounds_tab (needL_ok hok) hnL, last_any hok hn]
  by_cases h : stepsZ way pl order = restV way (needL pl need) (2 ^ need.length - 1) pl0
  · rw [if_pos h, h]
    simp
  · rw [if_neg h]
    simp [h]
/-- The plan with other steps is refused. -/
theorem check_bent {way : Int} {pl : List Pl} {need : List Int} {s : Int} (ht : taskZ way pl.length need = 0) (hs : s ≠ restV way (needL pl need) (2 ^ need.length - 1) pl0) :
    checkZ way pl need (orderZ way (needL pl need) need) s (tabL way (needL pl need)) = 19 := by
  have hn := (task_need rfl ht).1.1
  have h : ¬ stepsZ way pl (orderZ way (needL pl need) need) = s := by rw [orderZ_steps hn]; exact fun e => hs e.symm
  unfold checkZ
  rw [if_pos ht]
  split
  · rw [decide_eq_false h]
    simp
  · rfl
theorem swap_perm {o : List Int} {i k : Nat} (hi : i < o.length) (hk : k < o.length) : ((o.set i o[k]).set k o[i]).Perm o := List.set_set_perm hi hk
end Go.Proofs.Ytfljgcpfmhhgcaa
