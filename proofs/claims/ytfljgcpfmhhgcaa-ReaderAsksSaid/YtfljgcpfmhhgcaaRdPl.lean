/- Reader, plain: the least rest is the least over all orders; the plan's order has it; the least table is bounded by itself and attained. -/
import Derived.Test.YtfljgcpfmhhgcaaRdO
namespace Go.Proofs.Ytfljgcpfmhhgcaa
open Go.RowKit Go.Lab
theorem take_bd {a c : Int} (hc : 0 ≤ c) : takeZ a c ≤ c ∧ 0 ≤ takeZ a c ∧ (0 ≤ a → takeZ a c ≤ a) := by
  unfold takeZ
  split <;> omega
theorem fold_bd {α : Type} {f : α → Int} : ∀ (l : List α) (a : Int), (∀ y ∈ l, 0 ≤ f y) → (0 ≤ a → 0 ≤ l.foldl (fun a x => takeZ a (f x)) a ∧ l.foldl (fun a x => takeZ a (f x)) a ≤ a) ∧ ∀ x ∈ l, l.foldl (fun a x => takeZ a (f x)) a ≤ f x
  | [], a, _ => ⟨fun h => ⟨h, Int.le_refl _⟩, fun _ h => by cases h⟩
  | y :: l, a, h => by
    have hy := take_bd (a := a) (h y (List.mem_cons_self ..))
    obtain ⟨h1, h2⟩ := fold_bd l (takeZ a (f y)) (fun z hz => h z (List.mem_cons_of_mem _ hz))
    simp only [List.foldl_cons]
    refine ⟨fun ha => ?_, fun x hx => ?_⟩
    · have := h1 hy.2.1
      have := hy.2.2 ha
      omega
    · rcases List.mem_cons.1 hx with rfl | hx
      · have := h1 hy.2.1
        omega
      · exact h2 x hx
/-- The steps of an order of indices. -/
def stepsN (way : Int) (L : List Pl) : Pl → List Nat → Int
  | _, [] => 0
  | p, k :: ks => costZ way p (lp L k) + stepsN way L (lp L k) ks
theorem stepsN_nonneg {way : Int} {L : List Pl} (hL : ∀ p ∈ L, PlOk p) : ∀ (ks : List Nat) (p : Pl), PlOk p → 0 ≤ stepsN way L p ks
  | [], _, _ => Int.le_refl _
  | k :: ks, p, hp => by
    have h1 := costZ_bd (way := way) hp (lp_ok hL k)
    have h2 := stepsN_nonneg (way := way) hL ks _ (lp_ok hL k)
    rw [stepsN]
    omega
theorem stepsN_snoc (way : Int) (L : List Pl) (j k : Nat) : ∀ (ks : List Nat) (p : Pl), stepsN way L p (ks ++ [j] ++ [k]) = stepsN way L p (ks ++ [j]) + costZ way (lp L j) (lp L k)
  | [], p => by simp [stepsN]
  | x :: ks, p => by
    have := stepsN_snoc way L j k ks (lp L x)
    simp only [List.cons_append, stepsN]
    rw [this]
    omega
/-- The elements of the set s, each once. -/
def Cover (s n : Nat) (ks : List Nat) : Prop := ks.Nodup ∧ ∀ k, k ∈ ks ↔ k ∈ othersL s n (-1)
theorem Cover.nil_iff {s n : Nat} (h : Cover s n []) (hs : s < 2 ^ n) : s = 0 := by
  by_cases h0 : s = 0
  · exact h0
  · obtain ⟨k, hk⟩ := List.exists_mem_of_ne_nil _ (others_ne h0 hs)
    cases (h.2 k).2 hk
theorem cover_zero (n : Nat) : Cover 0 n [] := ⟨List.nodup_nil, fun k => by rw [others_zero]⟩
theorem othersL_iff {s n k : Nat} : k ∈ othersL s n (-1) ↔ k < n ∧ s.testBit k = true := by
  rw [othersL_mem]
  exact ⟨fun h => ⟨h.1, h.2.2⟩, fun h => ⟨h.1, by omega, h.2⟩⟩
theorem mem_less {s n k j : Nat} (hs : s < 256) (hn : n ≤ 8) (hk : k ∈ othersL s n (-1)) : j ∈ othersL (s - 2 ^ k) n (-1) ↔ j ∈ othersL s n (-1) ∧ j ≠ k := by
  obtain ⟨h1, h2⟩ := othersL_iff.1 hk
  rw [others_less hs hn h1 h2, List.mem_filter]
  simp
theorem Cover.tail {s n k : Nat} {ks : List Nat} (h : Cover s n (k :: ks)) (hs : s < 256) (hn : n ≤ 8) : k ∈ othersL s n (-1) ∧ Cover (s - 2 ^ k) n ks := by
  have hk := (h.2 k).1 (List.mem_cons_self ..)
  obtain ⟨h1, h2⟩ := List.nodup_cons.1 h.1
  refine ⟨hk, h2, fun j => ?_⟩
  rw [mem_less hs hn hk]
  refine ⟨fun hj => ⟨(h.2 j).1 (List.mem_cons_of_mem _ hj), fun e => h1 (e ▸ hj)⟩, fun ⟨hj, hne⟩ => ?_⟩
  rcases List.mem_cons.1 ((h.2 j).2 hj) with e | hj
  · exact absurd e hne
  · exact hj
theorem Cover.cons {s n k : Nat} {ks : List Nat} (hk : k ∈ othersL s n (-1)) (hs : s < 256) (hn : n ≤ 8) (h : Cover (s - 2 ^ k) n ks) : Cover s n (k :: ks) := by
  refine ⟨List.nodup_cons.2 ⟨fun hm => ((mem_less hs hn hk).1 ((h.2 k).1 hm)).2 rfl, h.1⟩, fun j => ?_⟩
  rw [List.mem_cons, h.2 j, mem_less hs hn hk]
  refine ⟨fun hj => ?_, fun hj => ?_⟩
  · rcases hj with rfl | hj
    · exact hk
    · exact hj.1
  · by_cases e : j = k
    · exact .inl e
    · exact .inr ⟨hj, e⟩
theorem Cover.snoc {s n k : Nat} {ks : List Nat} (hk : k ∈ othersL s n (-1)) (hs : s < 256) (hn : n ≤ 8) (h : Cover (s - 2 ^ k) n ks) : Cover s n (ks ++ [k]) := by
  have hc := Cover.cons hk hs hn h
  have hp : (ks ++ [k]).Perm (k :: ks) := List.perm_append_singleton k ks
  exact ⟨hp.nodup_iff.2 hc.1, fun j => by rw [hp.mem_iff]; exact hc.2 j⟩
theorem less_lt {s n k : Nat} (hk : k ∈ othersL s n (-1)) : s - 2 ^ k < s := by
  have h1 := bit_ge (othersL_iff.1 hk).2
  have h2 := Nat.two_pow_pos k
  omega
theorem restV_nonneg {way : Int} {L : List Pl} (hL : ∀ p ∈ L, PlOk p) (s : Nat) : ∀ p : Pl, PlOk p → s < 2 ^ L.length → 0 ≤ restV way L s p := by
  induction s using Nat.strongRecOn with
  | ind s ih =>
    intro p hp hs
    by_cases h0 : s = 0
    · rw [h0, restV_zero]
      exact Int.le_refl _
    · rw [restV_eq way L s p h0]
      obtain ⟨k, hk, he⟩ := take_attained (f := fun k => costZ way p (lp L k) + restV way L (s - 2 ^ k) (lp L k)) (others_ne h0 hs)
      rw [← he]
      have h1 := costZ_bd (way := way) hp (lp_ok hL k)
      have h2 := ih _ (less_lt hk) (lp L k) (lp_ok hL k) (Nat.lt_of_le_of_lt (Nat.sub_le _ _) hs)
      omega
/-- No order has fewer steps than the least rest. -/
theorem rest_le {way : Int} {L : List Pl} (hL : ∀ p ∈ L, PlOk p) (hn : L.length ≤ 8) : ∀ (ks : List Nat) (s : Nat) (p : Pl), PlOk p → s < 2 ^ L.length → Cover s L.length ks → restV way L s p ≤ stepsN way L p ks
  | [], s, p, _, hs, hc => by
    rw [hc.nil_iff hs, restV_zero]
    exact Int.le_refl _
  | k :: ks, s, p, hp, hs, hc => by
    have hs256 : s < 256 := Nat.lt_of_lt_of_le hs (two_pow_lt hn)
    obtain ⟨hk, hc2⟩ := hc.tail hs256 hn
    have h0 : s ≠ 0 := fun e => by rw [e, others_zero] at hk; cases hk
    have hs2 : s - 2 ^ k < 2 ^ L.length := Nat.lt_of_le_of_lt (Nat.sub_le _ _) hs
    have h1 := rest_le (way := way) hL hn ks (s - 2 ^ k) (lp L k) (lp_ok hL k) hs2 hc2
    rw [restV_eq way L s p h0, stepsN]
    have h2 := (fold_bd (f := fun k => costZ way p (lp L k) + restV way L (s - 2 ^ k) (lp L k)) (othersL s L.length (-1)) (-1) (fun y hy => by
      have g1 := costZ_bd (way := way) hp (lp_ok hL y)
      have g2 := restV_nonneg (way := way) hL (s - 2 ^ y) (lp L y) (lp_ok hL y) (Nat.lt_of_le_of_lt (Nat.sub_le _ _) hs)
      omega)).2 k hk
    omega
/-- The plan's order: all elements, each once, and the least steps. -/
theorem order_good {way : Int} {L : List Pl} (hn : L.length ≤ 8) (s : Nat) : ∀ p : Pl, s < 2 ^ L.length → Cover s L.length (orderV way L s p) ∧ stepsN way L p (orderV way L s p) = restV way L s p := by
  induction s using Nat.strongRecOn with
  | ind s ih =>
    intro p hs
    have hs256 : s < 256 := Nat.lt_of_lt_of_le hs (two_pow_lt hn)
    by_cases h0 : s = 0
    · subst h0
      rw [orderV_zero, restV_zero]
      exact ⟨cover_zero _, rfl⟩
    · obtain ⟨k0, hk0, hb0⟩ := best_some way L p h0 hs
      cases hf : (othersL s L.length (-1)).find? (bestP way L s p) with
      | none => exact absurd hb0 (List.find?_eq_none.1 hf k0 hk0)
      | some k =>
        have hk := List.mem_of_find?_eq_some hf
        have hb := List.find?_some hf
        obtain ⟨h1, h2⟩ := ih _ (less_lt hk) (lp L k) (Nat.lt_of_le_of_lt (Nat.sub_le _ _) hs)
        rw [orderV_eq way L h0 hf]
        refine ⟨Cover.cons hk hs256 hn h1, ?_⟩
        rw [stepsN, h2]
        unfold bestP at hb
        exact of_decide_eq_true hb
theorem others_self {s n k : Nat} (hs : s < 256) (hn : n ≤ 8) (hk : k ∈ othersL s n (-1)) : othersL s n (k : Nat) = othersL (s - 2 ^ k) n (-1) := others_k hs hn (othersL_iff.1 hk).1 (othersL_iff.1 hk).2
/-- Each cell of the table is the steps of an order that ends there. -/
theorem tab_attained {way : Int} {L : List Pl} (hn : L.length ≤ 8) (s : Nat) : ∀ k : Nat, s < 2 ^ L.length → k ∈ othersL s L.length (-1) → ∃ ks, Cover s L.length (ks ++ [k]) ∧ stepsN way L pl0 (ks ++ [k]) = tabV way L s k ∧ Cover (s - 2 ^ k) L.length ks := by
  induction s using Nat.strongRecOn with
  | ind s ih =>
    intro k hs hk
    have hs256 : s < 256 := Nat.lt_of_lt_of_le hs (two_pow_lt hn)
    have hs2 : s - 2 ^ k < 2 ^ L.length := Nat.lt_of_le_of_lt (Nat.sub_le _ _) hs
    have hb := (othersL_iff.1 hk).2
    rw [tabV_eq way L s k hb, others_self hs256 hn hk]
    by_cases h0 : s = 2 ^ k
    · have hz : s - 2 ^ k = 0 := by omega
      rw [if_pos h0, hz, others_zero]
      refine ⟨[], Cover.snoc hk hs256 hn (by rw [hz]; exact cover_zero _), ?_, cover_zero _⟩
      have : takeZ (-1) (costZ way pl0 (lp L k)) = costZ way pl0 (lp L k) := if_pos (.inl (by omega))
      simp [stepsN, this]
    · rw [if_neg h0]
      have h1 := bit_ge hb
      obtain ⟨j, hj, he⟩ := take_attained (f := fun j => tabV way L (s - 2 ^ k) j + costZ way (lp L j) (lp L k)) (others_ne (by omega) hs2)
      obtain ⟨ks, hc, hst, _⟩ := ih _ (less_lt hk) j hs2 hj
      refine ⟨ks ++ [j], Cover.snoc hk hs256 hn hc, ?_, hc⟩
      rw [stepsN_snoc, hst]
      exact he
theorem tab_nonneg {way : Int} {L : List Pl} (hL : ∀ p ∈ L, PlOk p) (hn : L.length ≤ 8) {s k : Nat} (hs : s < 2 ^ L.length) (hk : k ∈ othersL s L.length (-1)) : 0 ≤ tabV way L s k := by
  obtain ⟨ks, _, h, _⟩ := tab_attained (way := way) hn s k hs hk
  rw [← h]
  exact stepsN_nonneg hL _ _ pl0_ok
/-- The table bounds itself. -/
theorem tab_le {way : Int} {L : List Pl} (hL : ∀ p ∈ L, PlOk p) (hn : L.length ≤ 8) {s k : Nat} (hs : s < 2 ^ L.length) (hk : k ∈ othersL s L.length (-1)) :
    (s = 2 ^ k → tabV way L s k ≤ costZ way pl0 (lp L k)) ∧ ∀ j ∈ othersL s L.length (k : Nat), tabV way L s k ≤ tabV way L (s - 2 ^ k) j + costZ way (lp L j) (lp L k) := by
  have hs256 : s < 256 := Nat.lt_of_lt_of_le hs (two_pow_lt hn)
  have hs2 : s - 2 ^ k < 2 ^ L.length := Nat.lt_of_le_of_lt (Nat.sub_le _ _) hs
  rw [tabV_eq way L s k (othersL_iff.1 hk).2, others_self hs256 hn hk]
  have hf := fold_bd (f := fun j => tabV way L (s - 2 ^ k) j + costZ way (lp L j) (lp L k)) (othersL (s - 2 ^ k) L.length (-1))
  have hp : ∀ y ∈ othersL (s - 2 ^ k) L.length (-1), 0 ≤ tabV way L (s - 2 ^ k) y + costZ way (lp L y) (lp L k) := fun y hy => by
    have g1 := costZ_bd (way := way) (lp_ok hL y) (lp_ok hL k)
    have g2 := tab_nonneg (way := way) hL hn hs2 hy
    omega
  have hc := costZ_bd (way := way) pl0_ok (lp_ok hL k)
  have ht := take_bd (a := -1) hc.1
  refine ⟨fun h0 => ?_, fun j hj => (hf _ hp).2 j hj⟩
  rw [if_pos h0]
  have := ((hf (takeZ (-1) (costZ way pl0 (lp L k))) hp).1 ht.2.1).2
  omega
/-- No cell of the last row is below the least steps. -/
theorem last_le {way : Int} {L : List Pl} (hL : ∀ p ∈ L, PlOk p) (hn : L.length ≤ 8) {s k : Nat} (hs : s < 2 ^ L.length) (hk : k ∈ othersL s L.length (-1)) : restV way L s pl0 ≤ tabV way L s k := by
  obtain ⟨ks, hc, h, _⟩ := tab_attained (way := way) hn s k hs hk
  rw [← h]
  exact rest_le hL hn _ s pl0 pl0_ok hs hc
end Go.Proofs.Ytfljgcpfmhhgcaa
