/- Reader, plain: what Best hands back is accepted by Check; no order has fewer steps. -/
import Derived.Test.YtfljgcpfmhhgcaaRdPl
import Derived.Test.YtfljgcpfmhhgcaaRdCk
namespace Go.Proofs.Ytfljgcpfmhhgcaa
open Go.RowKit Go.Lab
theorem lp_need {pl : List Pl} {need : List Int} {k : Nat} (hk : k < need.length) : lp (needL pl need) k = lp pl (need.getD k 0).toNat := by
  simp [lp, needL, List.getD, hk]
theorem stepsGo_ndOf (way : Int) (pl : List Pl) (need : List Int) : ∀ (ks : List Nat) (f : Pl), (∀ k ∈ ks, k < need.length) → stepsGo way pl f (ndOf need ks) = stepsN way (needL pl need) f ks
  | [], _, _ => rfl
  | k :: ks, f, h => by
    have hk := h k (List.mem_cons_self ..)
    have ih := stepsGo_ndOf way pl need ks (lp (needL pl need) k) (fun j hj => h j (List.mem_cons_of_mem _ hj))
    rw [stepsN, ← ih, lp_need hk]
    rfl
theorem sortZ_need {order need : List Int} (hp : order.Perm need) (hs : need.Pairwise (· < ·)) : sortZ order = need := by
  refine List.Perm.eq_of_pairwise (le := fun a b => a ≤ b) (fun a b _ _ h1 h2 => Int.le_antisymm h1 h2) ?_ (hs.imp Int.le_of_lt) ((sortZ_perm order).trans hp)
  have h := List.pairwise_mergeSort (le := fun x y : Int => decide (x ≤ y)) (fun a b c h1 h2 => by simp only [decide_eq_true_eq] at *; omega) (fun a b => by simp only [Bool.or_eq_true, decide_eq_true_eq]; omega) order
  exact h.imp (fun h => of_decide_eq_true h)
theorem full_mem {n k : Nat} : k ∈ othersL (2 ^ n - 1) n (-1) ↔ k < n := by
  rw [othersL_iff, Nat.testBit_two_pow_sub_one]
  simp
theorem full_lt (n : Nat) : 2 ^ n - 1 < 2 ^ n := by have := Nat.two_pow_pos n; omega
theorem cover_full {n : Nat} {ks : List Nat} : Cover (2 ^ n - 1) n ks ↔ ks.Perm (List.range n) := by
  refine ⟨fun h => (List.perm_ext_iff_of_nodup h.1 List.nodup_range).2 (fun k => ?_), fun h => ⟨h.nodup_iff.2 List.nodup_range, fun k => ?_⟩⟩
  · rw [h.2 k, full_mem, List.mem_range]
  · rw [h.mem_iff, full_mem, List.mem_range]
theorem nd_range (need : List Int) : ndOf need (List.range need.length) = need := by
  apply List.ext_getElem
  · simp [ndOf]
  · intro i h1 h2
    simp only [ndOf, List.length_map, List.length_range] at h1
    simp [ndOf, List.getD, h1]
theorem orderZ_eq (way : Int) (pl : List Pl) (need : List Int) : orderZ way (needL pl need) need = ndOf need (orderV way (needL pl need) (2 ^ need.length - 1) pl0) := by
  unfold orderZ ndOf
  rw [needL_len]
theorem order_full {way : Int} {pl : List Pl} {need : List Int} (hn : need.length ≤ 8) : (orderV way (needL pl need) (2 ^ need.length - 1) pl0).Perm (List.range need.length) ∧ stepsN way (needL pl need) pl0 (orderV way (needL pl need) (2 ^ need.length - 1) pl0) = restV way (needL pl need) (2 ^ need.length - 1) pl0 := by
  have h := order_good (way := way) (L := needL pl need) (by rw [needL_len]; exact hn) (2 ^ need.length - 1) pl0 (by rw [needL_len]; exact full_lt _)
  rw [needL_len, cover_full] at h
  exact h
theorem orderZ_perm {way : Int} {pl : List Pl} {need : List Int} (hn : need.length ≤ 8) : (orderZ way (needL pl need) need).Perm need := by
  rw [orderZ_eq]
  have h := (order_full (way := way) (pl := pl) hn).1.map (fun k => need.getD k 0)
  have e := nd_range need
  unfold ndOf at e ⊢
  rw [e] at h
  exact h
theorem orderZ_steps {way : Int} {pl : List Pl} {need : List Int} (hn : need.length ≤ 8) : stepsZ way pl (orderZ way (needL pl need) need) = restV way (needL pl need) (2 ^ need.length - 1) pl0 := by
  obtain ⟨h1, h2⟩ := order_full (way := way) (pl := pl) hn
  unfold stepsZ
  rw [orderZ_eq, stepsGo_ndOf way pl need _ _ (fun k hk => by simpa using h1.mem_iff.1 hk), h2]
/-- No order has fewer steps. -/
theorem fewer {way : Int} {pl : List Pl} {need order : List Int} (hok : ∀ p ∈ pl, PlOk p) (hn : need.length ≤ 8) (hp : order.Perm need) : restV way (needL pl need) (2 ^ need.length - 1) pl0 ≤ stepsZ way pl order := by
  obtain ⟨ks, h1, h2⟩ : ∃ ks : List Nat, ks.Perm (List.range need.length) ∧ order = ndOf need ks := by
    have key : ∀ (m l : List Int), l.Perm m → ∀ ls : List Nat, m = ndOf need ls → ∃ ks : List Nat, ks.Perm ls ∧ l = ndOf need ks := by
      intro m l h
      induction h with
      | nil =>
        intro ls e
        cases ls with
        | nil => exact ⟨[], List.Perm.refl _, rfl⟩
        | cons x xs => simp [ndOf] at e
      | cons x _ ih =>
        intro ls e
        cases ls with
        | nil => cases e
        | cons y ys =>
          simp only [ndOf, List.map_cons, List.cons.injEq] at e
          obtain ⟨ks, g1, g2⟩ := ih ys e.2
          exact ⟨y :: ks, g1.cons y, by rw [g2, e.1]; rfl⟩
      | swap x y l =>
        intro ls e
        match ls, e with
        | [], e => cases e
        | [_], e => simp [ndOf] at e
        | a :: b :: r, e =>
          simp only [ndOf, List.map_cons, List.cons.injEq] at e
          exact ⟨b :: a :: r, List.Perm.swap _ _ _, by rw [e.1, e.2.1, e.2.2]; rfl⟩
      | trans _ _ ih1 ih2 =>
        intro ls e
        obtain ⟨ks, g1, g2⟩ := ih2 ls e
        obtain ⟨js, g3, g4⟩ := ih1 ks g2
        exact ⟨js, g3.trans g1, g4⟩
    exact key need order hp (List.range need.length) (nd_range need).symm
  have hc : Cover (2 ^ need.length - 1) (needL pl need).length ks := by rw [needL_len]; exact cover_full.2 h1
  have h := rest_le (way := way) (needL_ok hok (need := need)) (by rw [needL_len]; exact hn) ks (2 ^ need.length - 1) pl0 pl0_ok (by rw [needL_len]; exact full_lt _) hc
  unfold stepsZ
  rw [h2, stepsGo_ndOf way pl need ks pl0 (fun k hk => by simpa using h1.mem_iff.1 hk)]
  exact h
theorem cell_tab {way : Int} {L : List Pl} {s k : Nat} (hs : s < 2 ^ L.length) (hk : k < L.length) : cellT (tabL way L) s k = tabV way L s k := by
  simp [cellT, tabL, rowL, List.getD, hs, hk]
theorem bounds_tab {way : Int} {L : List Pl} (hL : ∀ p ∈ L, PlOk p) (hn : L.length ≤ 8) : boundsZ way L (tabL way L) = true := by
  unfold boundsZ
  rw [Bool.and_eq_true, Bool.and_eq_true]
  refine ⟨by simp [tabL], by simp [tabL, rowL], ?_⟩
  rw [List.all_eq_true]
  intro s hs
  rw [List.mem_range] at hs
  rw [List.all_eq_true]
  intro k hk
  have hkn := (othersL_iff.1 hk).1
  obtain ⟨h1, h2⟩ := tab_le (way := way) hL hn hs hk
  unfold okK
  rw [Bool.and_eq_true, cell_tab hs hkn]
  constructor
  · rw [Bool.not_eq_true', Bool.and_eq_false_iff]
    by_cases h0 : s = 2 ^ k
    · right
      have := h1 h0
      exact decide_eq_false (by omega)
    · left
      exact decide_eq_false h0
  · rw [List.all_eq_true]
    intro j hj
    have hjn := (othersL_mem.1 hj).1
    have := h2 j hj
    rw [cell_tab (Nat.lt_of_le_of_lt (Nat.sub_le _ _) hs) hjn]
    simp only [Bool.not_eq_true', decide_eq_false_iff_not]
    omega
/-- Check accepts what Best hands back. -/
theorem accepted {way : Int} {pl : List Pl} {need : List Int} (hok : ∀ p ∈ pl, PlOk p) (ht : taskZ way pl.length need = 0) :
    checkZ way pl need (orderZ way (needL pl need) need) (restV way (needL pl need) (2 ^ need.length - 1) pl0) (tabL way (needL pl need)) = 0 := by
  obtain ⟨hneed, _, _, hpw⟩ := task_need rfl ht
  have hn := hneed.1
  have hnL : (needL pl need).length ≤ 8 := by rw [needL_len]; exact hn
  unfold checkZ
  rw [if_pos ht, sortZ_need (orderZ_perm hn) hpw, bounds_tab (needL_ok hok) hnL, orderZ_steps hn]
  have hlast : (((tabL way (needL pl need)).getD ((tabL way (needL pl need)).length - 1) []).any fun x => decide (x < restV way (needL pl need) (2 ^ need.length - 1) pl0)) = false := by
    rw [List.any_eq_false]
    intro x hx
    have e : (tabL way (needL pl need)).getD ((tabL way (needL pl need)).length - 1) [] = rowL way (needL pl need) (2 ^ need.length - 1) := by
      have := full_lt need.length
      simp [tabL, List.getD, needL_len, this]
    rw [e] at hx
    unfold rowL at hx
    obtain ⟨k, hk, rfl⟩ := List.mem_map.1 hx
    rw [List.mem_range, needL_len] at hk
    have := last_le (way := way) (needL_ok hok (need := need)) hnL (s := 2 ^ need.length - 1) (k := k) (by rw [needL_len]; exact full_lt _) (by rw [needL_len]; exact full_mem.2 hk)
    simp only [decide_eq_true_eq]
    omega
  rw [hlast]
  simp
end Go.Proofs.Ytfljgcpfmhhgcaa
