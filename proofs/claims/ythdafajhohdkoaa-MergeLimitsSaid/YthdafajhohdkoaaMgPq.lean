/- Plain: the reference's text, place by place, is the merged text. -/
import Derived.Test.YthdafajhohdkoaaMgPl
namespace Go.Proofs.Ythdafajhohdkoaa
open Go.RowKit Go.Lab
theorem edAt_some {a b : List Edit} {p : Int} {e : Edit} (h : edAt a b p = some e) : (e ∈ a ∨ e ∈ b) ∧ e.pos = p := by
  unfold edAt at h
  split at h
  · exact ⟨.inl (findE_mem h).1, (findE_mem h).2⟩
  · exact ⟨.inr (findE_mem h).1, (findE_mem h).2⟩
theorem findE_none {l : List Edit} {p : Int} (h : findE l p = none) : ∀ e ∈ l, e.pos ≠ p := by
  unfold findE at h
  intro e he hp
  have := List.find?_eq_none.1 h e he
  simp [hp] at this
theorem edAt_none {a b : List Edit} {p : Int} (h : edAt a b p = none) : ∀ e, e ∈ a ∨ e ∈ b → e.pos ≠ p := by
  unfold edAt at h
  split at h
  · rename_i hs
    rw [h] at hs
    cases hs
  · rename_i hs
    have hn : findE a p = none := by
      cases hf : findE a p with
      | none => rfl
      | some x => rw [hf] at hs; exact absurd rfl hs
    intro e he
    rcases he with he | he
    · exact findE_none hn e he
    · exact findE_none h e he
def rOf (base : List Sym) (s : MS) (i : Nat) : RS := ⟨((s.k - i : Nat) : Int), (keepS base i s).kept, (keepS base i s).out⟩
theorem keepR_rOf {base : List Sym} {s : MS} {i : Nat} (h : i < base.length) : keepR base i (rOf base s i) = rOf base s (i + 1) := by
  obtain ⟨k, kept, out⟩ := s
  by_cases hk : k ≤ i
  · obtain ⟨j, rfl⟩ : ∃ j, i = k + j := ⟨i - k, by omega⟩
    have e1 : k + j - k = j := by omega
    have e2 : k + j + 1 - k = j + 1 := by omega
    have e3 : k - (k + j) = 0 := by omega
    have e4 : k - (k + j + 1) = 0 := by omega
    unfold keepR rOf keepS
    simp only [e1, e2, e3, e4]
    rw [if_neg (by simp), take_one h, segS_succ h, segP, List.length_append, segS_len (by omega)]
    simp
  · have e1 : i - k = 0 := by omega
    have e2 : i + 1 - k = 0 := by omega
    unfold keepR rOf keepS
    simp only [e1, e2]
    rw [if_pos (by omega)]
    have : ((k - i : Nat) : Int) - 1 = ((k - (i + 1) : Nat) : Int) := by omega
    rw [this] <;> simp [segP, segS]
theorem insR_rOf {base : List Sym} {s : MS} {i : Nat} {e : Edit} (hk : s.k ≤ i) (hp : e.pos = (i : Int)) (hd : 0 ≤ e.del) : insR (some e) (rOf base s i) = rOf base (stepS base s e) i := by
  obtain ⟨k, kept, out⟩ := s
  simp only at hk
  have e0 : e.pos.toNat = i := by omega
  have e1 : k + (i - k) + e.del.toNat - i = e.del.toNat := by omega
  have e2 : i - (k + (i - k) + e.del.toNat) = 0 := by omega
  have e3 : ((e.del.toNat : Nat) : Int) = e.del := by omega
  unfold insR rOf stepS insS keepS
  simp only [e0, e1, e2, e3] <;> simp [segP, segS]
theorem placeR_step {base : List Sym} {a b L : List Edit} (hL : ∀ e, e ∈ L ↔ e ∈ a ∨ e ∈ b) (hsep : SepE L) (hok : ∀ e ∈ L, 0 ≤ e.pos ∧ 0 ≤ e.del) {i : Nat} {L1 L2 : List Edit} (hLL : L = L1 ++ L2) (h1 : ∀ e ∈ L1, e.pos < i) (h2 : ∀ e ∈ L2, (i : Int) ≤ e.pos) (hk : ∀ e ∈ L2, ((foldS base L1).k : Int) ≤ e.pos) :
    ∃ L1' L2', L = L1' ++ L2' ∧ (∀ e ∈ L1', e.pos < (i + 1 : Nat)) ∧ (∀ e ∈ L2', ((i + 1 : Nat) : Int) ≤ e.pos) ∧ (∀ e ∈ L2', ((foldS base L1').k : Int) ≤ e.pos) ∧ insR (edAt a b i) (rOf base (foldS base L1) i) = rOf base (foldS base L1') i := by
  cases he : edAt a b i with
  | none =>
    have hn := edAt_none he
    refine ⟨L1, L2, hLL, fun e h => by have := h1 e h; omega, fun e h => ?_, hk, rfl⟩
    have g1 := h2 e h
    have g2 := hn e ((hL e).1 (by rw [hLL]; exact List.mem_append_right _ h))
    omega
  | some x =>
    obtain ⟨hx, hp⟩ := edAt_some he
    have hxL := (hL x).2 hx
    have hx2 : x ∈ L2 := by
      rw [hLL] at hxL
      rcases List.mem_append.1 hxL with h | h
      · have := h1 x h; omega
      · exact h
    have hsep2 : SepE L2 := by
      unfold SepE at hsep
      rw [hLL] at hsep
      exact (List.pairwise_append.1 hsep).2.1
    cases L2 with
    | nil => cases hx2
    | cons y L2 =>
      have hy : y ∈ L := by rw [hLL]; exact List.mem_append_right _ (List.mem_cons_self ..)
      have hyx : x = y := by
        rcases List.mem_cons.1 hx2 with h | h
        · exact h
        · have g1 := (List.pairwise_cons.1 hsep2).1 x h
          have g2 := h2 y (List.mem_cons_self ..)
          have g3 := (hok y hy).2
          omega
      subst hyx
      have hkx : (foldS base L1).k ≤ i := by have := hk x (List.mem_cons_self ..); omega
      have hd := (hok x hy).2
      refine ⟨L1 ++ [x], L2, by rw [hLL]; simp, fun e h => ?_, fun e h => ?_, fun e h => ?_, ?_⟩
      · rcases List.mem_append.1 h with h | h
        · have := h1 e h; omega
        · rw [List.mem_singleton] at h; subst h; omega
      · have g1 := (List.pairwise_cons.1 hsep2).1 e h
        omega
      · have g1 := (List.pairwise_cons.1 hsep2).1 e h
        rw [foldS_snoc]
        have e0 : x.pos.toNat = i := by omega
        have : (stepS base (foldS base L1) x).k = (foldS base L1).k + (i - (foldS base L1).k) + x.del.toNat := by simp only [stepS, insS, keepS, e0]
        rw [this]
        omega
      · rw [foldS_snoc]
        exact insR_rOf hkx hp hd
theorem placeR_eq {base : List Sym} {a b L : List Edit} (hL : ∀ e, e ∈ L ↔ e ∈ a ∨ e ∈ b) (hsep : SepE L) (hok : ∀ e ∈ L, 0 ≤ e.pos ∧ 0 ≤ e.del) : ∀ i : Nat, i ≤ base.length →
    ∃ L1 L2, L = L1 ++ L2 ∧ (∀ e ∈ L1, e.pos < (i : Int)) ∧ (∀ e ∈ L2, (i : Int) ≤ e.pos) ∧ (∀ e ∈ L2, ((foldS base L1).k : Int) ≤ e.pos) ∧ placeR base a b i = rOf base (foldS base L1) i
  | 0, _ => ⟨[], L, rfl, by simp, fun e h => by have := (hok e h).1; omega, fun e h => by have := (hok e h).1; simp [foldS]; omega, by simp [placeR, rOf, keepS, foldS, segP, segS]⟩
  | i + 1, hi => by
    obtain ⟨L1, L2, g1, g2, g3, g4, g5⟩ := placeR_eq (base := base) hL hsep hok i (by omega)
    obtain ⟨M1, M2, k1, k2, k3, k4, k5⟩ := placeR_step (base := base) hL hsep hok g1 g2 g3 g4
    exact ⟨M1, M2, k1, k2, k3, k4, by rw [placeR, g5, k5, keepR_rOf (show i < base.length by omega)]⟩
theorem finR_eq {base : List Sym} {a b L : List Edit} (hL : ∀ e, e ∈ L ↔ e ∈ a ∨ e ∈ b) (hsep : SepE L) (hok : ∀ e ∈ L, 0 ≤ e.pos ∧ 0 ≤ e.del) (hin : ∀ e ∈ L, e.pos ≤ base.length) : (finR base a b).out = (endS base L).out ∧ (finR base a b).kept = (endS base L).kept := by
  obtain ⟨L1, L2, g1, g2, g3, g4, g5⟩ := placeR_eq (base := base) hL hsep hok base.length (Nat.le_refl _)
  obtain ⟨M1, M2, k1, k2, k3, k4, k5⟩ := placeR_step (base := base) hL hsep hok g1 g2 g3 g4
  have hM : M2 = [] := by
    cases M2 with
    | nil => rfl
    | cons y M =>
      have h1 := k3 y (List.mem_cons_self ..)
      have h2 := hin y (by rw [k1]; exact List.mem_append_right _ (List.mem_cons_self ..))
      omega
  subst hM
  rw [List.append_nil] at k1
  subst k1
  unfold finR
  rw [g5, k5]
  exact ⟨rfl, rfl⟩
theorem bothZ_eq (base : List Sym) (a b : List Edit) : bothZ base a b = mergeZ base a b := by
  unfold bothZ mergeZ
  by_cases hv : (isTextB base && validZ base.length a && validZ base.length b) = false
  · rw [if_pos hv, if_pos hv]
  · rw [if_neg hv, if_neg hv]
    by_cases hc : clashP a b ≠ []
    · rw [if_pos hc, if_pos hc]
    · rw [if_neg hc, if_neg hc]
      simp only [Bool.not_eq_false, Bool.and_eq_true] at hv
      have hc' : clashP a b = [] := by simpa using hc
      have hsep := srt_sep hv.1.2 hv.2 hc'
      have hL : ∀ e, e ∈ srtE (bothE a b) ↔ e ∈ a ∨ e ∈ b := fun e => ((srtE_perm _).mem_iff).trans mem_bothE
      have hok : ∀ e ∈ srtE (bothE a b), 0 ≤ e.pos ∧ 0 ≤ e.del := fun e h => bothE_ok hv.1.2 hv.2 e ((srtE_perm _).mem_iff.1 h)
      have hin : ∀ e ∈ srtE (bothE a b), e.pos ≤ base.length := fun e h => by
        rcases (hL e).1 h with h | h
        · exact (validZ_in hv.1.2 e h).2.1
        · exact (validZ_in hv.2 e h).2.1
      obtain ⟨f1, f2⟩ := finR_eq hL hsep hok hin
      unfold doneZ
      rw [f1, f2]
end Go.Proofs.Ythdafajhohdkoaa
