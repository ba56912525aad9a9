/- Reader: what the least table and the least rest are, in plain words. -/
import Derived.Test.YtfljgcpfmhhgcaaRdX
import Derived.Test.YtfljgcpfmhhgcaaRdY
namespace Go.Proofs.Ytfljgcpfmhhgcaa
open Go.RowKit Go.Lab
def pl0 : Pl := ⟨0, 0, 0, 0, 0, 0⟩
theorem pl0_ok : PlOk pl0 := by simp [PlOk, pl0]
def lp (L : List Pl) (j : Nat) : Pl := L.getD j pl0
theorem lp_get {L : List Pl} {j : Nat} (h : j < L.length) : lp L j = L[j] := by simp [lp, h]
theorem lp_ok {L : List Pl} (h : ∀ p ∈ L, PlOk p) (j : Nat) : PlOk (lp L j) := by
  by_cases hj : j < L.length
  · rw [lp_get hj]; exact h _ (List.getElem_mem hj)
  · have : lp L j = pl0 := by simp [lp, List.getD, List.getElem?_eq_none (Nat.le_of_not_lt hj)]
    rw [this]; exact pl0_ok
def tabF (way : Int) (L : List Pl) : Nat → Nat → Nat → Int
  | 0, _, _ => -1
  | f + 1, s, k => if s.testBit k then (othersL s L.length k).foldl (fun a j => takeZ a (tabF way L f (s - 2 ^ k) j + costZ way (lp L j) (lp L k))) (if s = 2 ^ k then takeZ (-1) (costZ way pl0 (lp L k)) else -1) else -1
def tabV (way : Int) (L : List Pl) (s k : Nat) : Int := tabF way L (s + 1) s k
def restF (way : Int) (L : List Pl) : Nat → Nat → Pl → Int
  | 0, _, _ => 0
  | f + 1, s, from_ => if s = 0 then 0 else (othersL s L.length (-1)).foldl (fun a k => takeZ a (costZ way from_ (lp L k) + restF way L f (s - 2 ^ k) (lp L k))) (-1)
def restV (way : Int) (L : List Pl) (s : Nat) (from_ : Pl) : Int := restF way L (s + 1) s from_
theorem foldl_congr {α β : Type} {f g : β → α → β} : ∀ (l : List α) (a : β), (∀ x ∈ l, ∀ b, f b x = g b x) → l.foldl f a = l.foldl g a
  | [], _, _ => rfl
  | x :: l, a, h => by
    rw [List.foldl_cons, List.foldl_cons, h x (List.mem_cons_self ..)]
    exact foldl_congr l _ (fun y hy b => h y (List.mem_cons_of_mem _ hy) b)
theorem bit_ge {s k : Nat} (h : s.testBit k = true) : 2 ^ k ≤ s := Nat.ge_two_pow_of_testBit h
theorem tabF_stable (way : Int) (L : List Pl) : ∀ (f g s k : Nat), s < f → s < g → tabF way L f s k = tabF way L g s k
  | 0, _, _, _, h, _ => absurd h (Nat.not_lt_zero _)
  | _ + 1, 0, _, _, _, h => absurd h (Nat.not_lt_zero _)
  | f + 1, g + 1, s, k, hf, hg => by
    unfold tabF
    by_cases hb : s.testBit k = true
    · rw [if_pos hb, if_pos hb]
      have hk := bit_ge hb
      have h1 : 0 < 2 ^ k := Nat.two_pow_pos k
      refine foldl_congr _ _ (fun j _ b => ?_)
      rw [tabF_stable way L f g (s - 2 ^ k) j (by omega) (by omega)]
    · rw [if_neg hb, if_neg hb]
theorem tabV_eq (way : Int) (L : List Pl) (s k : Nat) (hb : s.testBit k = true) :
    tabV way L s k = (othersL s L.length k).foldl (fun a j => takeZ a (tabV way L (s - 2 ^ k) j + costZ way (lp L j) (lp L k))) (if s = 2 ^ k then takeZ (-1) (costZ way pl0 (lp L k)) else -1) := by
  have hk := bit_ge hb
  have h1 : 0 < 2 ^ k := Nat.two_pow_pos k
  rw [tabV, tabF, if_pos hb]
  refine foldl_congr _ _ (fun j _ b => ?_)
  rw [tabV, tabF_stable way L s (s - 2 ^ k + 1) (s - 2 ^ k) j (by omega) (by omega)]
theorem tabV_no (way : Int) (L : List Pl) (s k : Nat) (hb : s.testBit k = false) : tabV way L s k = -1 := by
  rw [tabV, tabF, if_neg (by simp [hb])]
theorem restF_stable (way : Int) (L : List Pl) : ∀ (f g s : Nat) (p : Pl), s < f → s < g → restF way L f s p = restF way L g s p
  | 0, _, _, _, h, _ => absurd h (Nat.not_lt_zero _)
  | _ + 1, 0, _, _, _, h => absurd h (Nat.not_lt_zero _)
  | f + 1, g + 1, s, p, hf, hg => by
    unfold restF
    by_cases hs : s = 0
    · rw [if_pos hs, if_pos hs]
    · rw [if_neg hs, if_neg hs]
      refine foldl_congr _ _ (fun k hk b => ?_)
      have hb := bit_ge (othersL_mem.1 hk).2.2
      have h1 : 0 < 2 ^ k := Nat.two_pow_pos k
      rw [restF_stable way L f g (s - 2 ^ k) (lp L k) (by omega) (by omega)]
theorem restV_zero (way : Int) (L : List Pl) (p : Pl) : restV way L 0 p = 0 := by rw [restV, restF, if_pos rfl]
theorem restV_eq (way : Int) (L : List Pl) (s : Nat) (p : Pl) (hs : s ≠ 0) :
    restV way L s p = (othersL s L.length (-1)).foldl (fun a k => takeZ a (costZ way p (lp L k) + restV way L (s - 2 ^ k) (lp L k))) (-1) := by
  rw [restV, restF, if_neg hs]
  refine foldl_congr _ _ (fun k hk b => ?_)
  have hb := bit_ge (othersL_mem.1 hk).2.2
  have h1 : 0 < 2 ^ k := Nat.two_pow_pos k
  rw [restV, restF_stable way L s (s - 2 ^ k + 1) (s - 2 ^ k) _ (by omega) (by omega)]
theorem foldl_take_bd {α : Type} {f : α → Int} {M : Int} : ∀ (l : List α) (a : Int), (∀ x ∈ l, -1 ≤ f x ∧ f x ≤ M) → -1 ≤ a → a ≤ M → -1 ≤ l.foldl (fun a x => takeZ a (f x)) a ∧ l.foldl (fun a x => takeZ a (f x)) a ≤ M
  | [], a, _, h1, h2 => ⟨h1, h2⟩
  | x :: l, a, h, h1, h2 => by
    rw [List.foldl_cons]
    have hx := h x (List.mem_cons_self ..)
    refine foldl_take_bd l _ (fun y hy => h y (List.mem_cons_of_mem _ hy)) ?_ ?_ <;> unfold takeZ <;> split <;> omega
theorem tabF_bd {way : Int} {L : List Pl} (hL : ∀ p ∈ L, PlOk p) : ∀ (f s k : Nat), -1 ≤ tabF way L f s k ∧ tabF way L f s k ≤ 20000000 * f
  | 0, _, _ => by simp [tabF]
  | f + 1, s, k => by
    unfold tabF
    split
    · have hc := costZ_bd (way := way) pl0_ok (lp_ok hL k)
      refine foldl_take_bd _ _ (fun j _ => ?_) ?_ ?_
      · have h1 := tabF_bd (way := way) hL f (s - 2 ^ k) j
        have h2 := costZ_bd (way := way) (lp_ok hL j) (lp_ok hL k)
        omega
      · split
        · rw [takeZ, if_pos (by omega)]; omega
        · omega
      · split
        · rw [takeZ, if_pos (by omega)]; omega
        · omega
    · omega
theorem tabV_bd {way : Int} {L : List Pl} (hL : ∀ p ∈ L, PlOk p) {s : Nat} (hs : s < 512) (k : Nat) : -1 ≤ tabV way L s k ∧ tabV way L s k ≤ 10240000000 := by
  have := tabF_bd (way := way) hL (s + 1) s k
  unfold tabV
  omega
theorem restF_bd {way : Int} {L : List Pl} (hL : ∀ p ∈ L, PlOk p) : ∀ (f s : Nat) (p : Pl), PlOk p → -1 ≤ restF way L f s p ∧ restF way L f s p ≤ 20000000 * f
  | 0, _, _, _ => by simp [restF]
  | f + 1, s, p, hp => by
    unfold restF
    split
    · omega
    · refine foldl_take_bd _ _ (fun k _ => ?_) ?_ ?_
      · have h1 := restF_bd (way := way) hL f (s - 2 ^ k) (lp L k) (lp_ok hL k)
        have h2 := costZ_bd (way := way) hp (lp_ok hL k)
        omega
      · omega
      · omega
theorem restV_bd {way : Int} {L : List Pl} (hL : ∀ p ∈ L, PlOk p) {s : Nat} (hs : s < 512) {p : Pl} (hp : PlOk p) : -1 ≤ restV way L s p ∧ restV way L s p ≤ 10240000000 := by
  have := restF_bd (way := way) hL (s + 1) s p hp
  unfold restV
  omega
/-- The places that are needed. -/
def needL (pl : List Pl) (need : List Int) : List Pl := need.map fun x => pl.getD x.toNat pl0
theorem needL_len (pl : List Pl) (need : List Int) : (needL pl need).length = need.length := by simp [needL]
def NeedOk (pl : List Pl) (need : List Int) : Prop := need.length ≤ 8 ∧ ∀ x ∈ need, 0 ≤ x ∧ x < pl.length
theorem needL_get {pl : List Pl} {need : List Int} (h : NeedOk pl need) {k : Nat} (hk : k < need.length) : ∃ i : Nat, ∃ hi : i < pl.length, need[k] = (i : Int) ∧ lp (needL pl need) k = pl[i] := by
  have h1 := h.2 _ (List.getElem_mem hk)
  refine ⟨need[k].toNat, by omega, by omega, ?_⟩
  rw [lp_get (by simpa [needL] using hk)]
  simp only [needL, List.getElem_map]
  exact lp_get (L := pl) (by omega)
theorem needL_ok {pl : List Pl} {need : List Int} (h : ∀ p ∈ pl, PlOk p) : ∀ p ∈ needL pl need, PlOk p := by
  intro p hp
  obtain ⟨x, _, rfl⟩ := List.mem_map.1 hp
  exact lp_ok (L := pl) h x.toNat
theorem task_need {way n : Int} {pl : List Pl} {need : List Int} (hn : n = pl.length) (h : taskZ way n need = 0) : NeedOk pl need ∧ 0 ≤ way ∧ way ≤ 3 ∧ need.Pairwise (· < ·) := by
  subst hn
  have key : ∀ (l : List Int) (last : Int), taskGo pl.length last l = true → (∀ x ∈ l, last < x ∧ x < pl.length) ∧ l.Pairwise (· < ·) := by
    intro l
    induction l with
    | nil => intro last _; exact ⟨fun _ h => (by cases h), List.Pairwise.nil⟩
    | cons x l ih =>
      intro last hh
      rw [taskGo] at hh
      split at hh
      · cases hh
      · rename_i hb
        obtain ⟨h1, h2⟩ := ih x hh
        refine ⟨fun y hy => ?_, List.pairwise_cons.2 ⟨fun y hy => (h1 y hy).1, h2⟩⟩
        rcases List.mem_cons.1 hy with rfl | hy
        · omega
        · have := h1 y hy; omega
  unfold taskZ at h
  split at h
  · cases h
  · split at h
    · cases h
    · split at h
      · cases h
      · rename_i h1 h2 h3
        obtain ⟨h4, h5⟩ := key need (-1) (by simpa using h2)
        exact ⟨⟨by omega, fun x hx => by have := h4 x hx; omega⟩, by omega, by omega, h5⟩
end Go.Proofs.Ytfljgcpfmhhgcaa
