/- Reader, plain: the plan does not depend on items, facts and beginnings; what Need hands back is a task. -/
import Derived.Test.YtfljgcpfmhhgcaaRdPm
import Derived.Test.YtfljgcpfmhhgcaaRdNd
namespace Go.Proofs.Ytfljgcpfmhhgcaa
open Go.RowKit Go.Lab
def bare (p : Pl) : Pl := ⟨0, 0, 0, p.len, p.page, p.line⟩
theorem costZ_bare (way : Int) (a b : Pl) : costZ way (bare a) (bare b) = costZ way a b := rfl
theorem lp_bare (L : List Pl) (k : Nat) : lp (L.map bare) k = bare (lp L k) := by
  unfold lp
  by_cases hk : k < L.length
  · simp [List.getD, hk]
  · simp [List.getD, List.getElem?_eq_none (Nat.le_of_not_lt hk), bare, pl0]
theorem tabF_bare (way : Int) (L : List Pl) : ∀ (f s k : Nat), tabF way (L.map bare) f s k = tabF way L f s k
  | 0, _, _ => rfl
  | f + 1, s, k => by
    unfold tabF
    rw [List.length_map, lp_bare, show costZ way pl0 (bare (lp L k)) = costZ way pl0 (lp L k) from costZ_bare way pl0 (lp L k)]
    split
    · refine foldl_congr _ _ (fun j _ b => ?_)
      rw [tabF_bare way L f, lp_bare, costZ_bare]
    · rfl
theorem restF_bare (way : Int) (L : List Pl) : ∀ (f s : Nat) (p : Pl), restF way (L.map bare) f s (bare p) = restF way L f s p
  | 0, _, _ => rfl
  | f + 1, s, p => by
    unfold restF
    rw [List.length_map]
    split
    · rfl
    · refine foldl_congr _ _ (fun k _ b => ?_)
      rw [lp_bare, costZ_bare, restF_bare way L f]
theorem restV_bare (way : Int) (L : List Pl) (s : Nat) (p : Pl) : restV way (L.map bare) s (bare p) = restV way L s p := restF_bare way L _ s p
theorem orderF_bare (way : Int) (L : List Pl) : ∀ (f s : Nat) (p : Pl), orderF way (L.map bare) f s (bare p) = orderF way L f s p
  | 0, _, _ => rfl
  | f + 1, s, p => by
    have hb : bestP way (L.map bare) s (bare p) = bestP way L s p := by
      funext k
      unfold bestP
      rw [lp_bare, costZ_bare, restV_bare, restV_bare]
    unfold orderF
    rw [List.length_map, hb]
    split
    · rfl
    · cases (othersL s L.length (-1)).find? (bestP way L s p) with
      | none => rfl
      | some k =>
        simp only
        rw [lp_bare, orderF_bare way L f]
theorem needL_bare (pl : List Pl) (need : List Int) : (needL pl need).map bare = needL (pl.map bare) need := by
  unfold needL
  rw [List.map_map]
  apply List.map_congr_left
  intro x _
  exact (lp_bare pl x.toNat).symm
theorem tabL_bare (way : Int) (L : List Pl) : tabL way (L.map bare) = tabL way L := by
  have h : ∀ s, rowL way (L.map bare) s = rowL way L s := fun s => by
    unfold rowL tabV
    rw [List.length_map]
    exact List.map_congr_left (fun k _ => tabF_bare way L _ s k)
  unfold tabL
  rw [List.length_map]
  exact List.map_congr_left (fun s _ => h s)
/-- Two lists of places that differ in items, facts and beginnings alone have the same plan. -/
theorem same_plan {way : Int} {X Y : List Pl} (h : X.map bare = Y.map bare) (need : List Int) :
    tabL way (needL X need) = tabL way (needL Y need) ∧ (∀ s, restV way (needL X need) s pl0 = restV way (needL Y need) s pl0) ∧ orderZ way (needL X need) need = orderZ way (needL Y need) need := by
  have e : (needL X need).map bare = (needL Y need).map bare := by rw [needL_bare, needL_bare, h]
  have hl : (needL X need).length = (needL Y need).length := by rw [needL_len, needL_len]
  refine ⟨by rw [← tabL_bare, e, tabL_bare], fun s => ?_, ?_⟩
  · rw [← restV_bare way (needL X need), e, restV_bare]
  · unfold orderZ orderV
    rw [hl, ← orderF_bare way (needL X need), e, orderF_bare]
theorem taskGo_ok {n : Int} : ∀ (need : List Int) (last : Int), need.Pairwise (· < ·) → (∀ x ∈ need, last < x ∧ x < n) → taskGo n last need = true
  | [], _, _, _ => rfl
  | x :: l, last, hp, h => by
    obtain ⟨h1, h2⟩ := List.pairwise_cons.1 hp
    have hx := h x (List.mem_cons_self ..)
    rw [taskGo, if_neg (by omega)]
    exact taskGo_ok l x h2 (fun y hy => ⟨h1 y hy, (h y (List.mem_cons_of_mem _ hy)).2⟩)
theorem task_zero {way : Int} {n : Nat} {need : List Int} (h : NeedIn n need) (h0 : 0 ≤ way) (h3 : way ≤ 3) : taskZ way n need = 0 := by
  obtain ⟨g1, g2, g3⟩ := h
  have : taskGo n (-1) need = true := taskGo_ok need (-1) g2 (fun x hx => by have := g3 x hx; omega)
  unfold taskZ
  rw [if_neg (by omega), if_neg (by rw [this]; decide), if_neg (by omega)]
end Go.Proofs.Ytfljgcpfmhhgcaa
