/- Reader, plain: for Speech and Panning the steps do not become fewer with a needed place more. -/
import Derived.Test.YtfljgcpfmhhgcaaRdPm
namespace Go.Proofs.Ytfljgcpfmhhgcaa
open Go.RowKit Go.Lab
theorem triangle {way : Int} (hw : way = 2 ∨ way = 3) {a b c : Pl} (hb : PlOk b) : costZ way a c ≤ costZ way a b + costZ way b c := by
  obtain ⟨_, _, _, _, h5, h6⟩ := hb
  have h := upZ_bd h5 h6
  rcases hw with rfl | rfl
  · simp only [costZ]
    simp only [show ¬ (2 : Int) = 0 by decide, show ¬ (2 : Int) = 1 by decide, if_false, if_true]
    unfold farZ
    omega
  · simp only [costZ]
    simp only [show ¬ (3 : Int) = 0 by decide, show ¬ (3 : Int) = 1 by decide, show ¬ (3 : Int) = 2 by decide, if_false, if_true]
    unfold farZ
    omega
theorem drop_le {way : Int} (hw : way = 2 ∨ way = 3) {pl : List Pl} (hok : ∀ p ∈ pl, PlOk p) (x : Int) (l2 : List Int) : ∀ (l1 : List Int) (f : Pl), PlOk f → stepsGo way pl f (l1 ++ l2) ≤ stepsGo way pl f (l1 ++ x :: l2)
  | [], f, hf => by
    have hx := lp_ok hok x.toNat
    have h1 := costZ_bd (way := way) hf hx
    cases l2 with
    | nil => simp only [List.nil_append, stepsGo]; omega
    | cons y ys =>
      have h2 := triangle hw (a := f) (c := lp pl y.toNat) hx
      simp only [List.nil_append, stepsGo]
      omega
  | z :: l1, f, hf => by
    have h := drop_le hw hok x l2 l1 (lp pl z.toNat) (lp_ok hok z.toNat)
    simp only [List.cons_append, stepsGo]
    omega
theorem fewer_less {way : Int} (hw : way = 2 ∨ way = 3) {pl : List Pl} (hok : ∀ p ∈ pl, PlOk p) {p q : List Int} {x : Int} (hn : (p ++ x :: q).length ≤ 8) :
    restV way (needL pl (p ++ q)) (2 ^ (p ++ q).length - 1) pl0 ≤ restV way (needL pl (p ++ x :: q)) (2 ^ (p ++ x :: q).length - 1) pl0 := by
  have ho := orderZ_perm (way := way) (pl := pl) hn
  rw [← orderZ_steps (way := way) (pl := pl) hn]
  generalize orderZ way (needL pl (p ++ x :: q)) (p ++ x :: q) = o at ho ⊢
  have hx : x ∈ o := ho.mem_iff.2 (by simp)
  obtain ⟨l1, l2, rfl⟩ := List.append_of_mem hx
  have hp : (l1 ++ l2).Perm (p ++ q) := by
    have h1 : (x :: (l1 ++ l2)).Perm (l1 ++ x :: l2) := List.perm_middle.symm
    have h2 : (x :: (p ++ q)).Perm (p ++ x :: q) := List.perm_middle.symm
    exact ((h1.trans ho).trans h2.symm).cons_inv
  have hlen : (p ++ q).length ≤ 8 := by simp only [List.length_append, List.length_cons] at hn ⊢; omega
  have h1 := fewer (way := way) hok hlen hp
  have h2 := drop_le hw hok x l2 l1 pl0 pl0_ok
  unfold stepsZ at h1 ⊢
  omega
end Go.Proofs.Ytfljgcpfmhhgcaa
