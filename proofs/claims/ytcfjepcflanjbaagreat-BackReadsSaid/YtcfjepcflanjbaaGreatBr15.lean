/- Plain: a text put into the first ones. -/
import Derived.Test.YtcfjepcflanjbaaGreatBr14
namespace Go.Proofs.YtcfjepcflanjbaaGreat
open Go.RowKit Go.Lab Go.Shelf
def insZ (t : List Sym) : List (List Sym) -> List (List Sym)
  | [] => [t]
  | y :: L => if zq13 y t = -1 then y :: insZ t L else if zq13 t y = -1 then t :: y :: L else y :: L
def putZ (most : Nat) (L : List (List Sym)) (t : List Sym) : List (List Sym) := (insZ t L).take most
theorem zq68 (t : List Sym) : ∀ L : List (List Sym), ∀ x, x ∈ insZ t L ↔ x = t \/ x ∈ L
  | [], x => by simp [insZ]
  | y :: L, x => by
    unfold insZ
    split
    · simp only [List.mem_cons, zq68 t L x]
      constructor
      · rintro (h | h | h) <;> simp [h]
      · rintro (h | h | h) <;> simp [h]
    · split
      · simp only [List.mem_cons]
      · rename_i h g
        have e : t = y := by
          rcases LtT.total y t with a | a | a
          · exact (h a).elim
          · exact a.symm
          · exact (g a).elim
        subst e
        simp
theorem zqcb (t : List Sym) : ∀ L : List (List Sym), L.Pairwise LtT -> (insZ t L).Pairwise LtT
  | [], _ => by simp [insZ]
  | y :: L, h => by
    rw [List.pairwise_cons] at h
    unfold insZ
    split
    · rename_i e
      rw [List.pairwise_cons]
      refine ⟨fun x hx => ?_, zqcb t L h.2⟩
      rcases (zq68 t L x).1 hx with rfl | hx
      · exact e
      · exact h.1 x hx
    · split
      · rename_i e
        rw [List.pairwise_cons, List.pairwise_cons]
        refine ⟨fun x hx => ?_, h⟩
        rcases List.mem_cons.1 hx with rfl | hx
        · exact e
        · exact LtT.trans (show LtT t y from e) (h.1 x hx)
      · rw [List.pairwise_cons]; exact h
theorem insZ_len (t : List Sym) : ∀ L : List (List Sym), L.length <= (insZ t L).length
  | [] => Nat.zero_le _
  | y :: L => by
    have h := insZ_len t L
    unfold insZ
    split
    · simp only [List.length_cons]; omega
    · split
      · simp only [List.length_cons]; omega
      · exact Nat.le_refl _
theorem firstN_put {most : Nat} {P : List Sym -> Prop} {L : List (List Sym)} (h : FirstN most P L) (t : List Sym) : FirstN most (fun x => P x \/ x = t) (putZ most L t) where
  asc := (zqcb t L h.asc).sublist (List.take_sublist _ _)
  sub := fun x hx => by
    rcases (zq68 t L x).1 (List.mem_of_mem_take hx) with e | e
    · exact .inr e
    · exact .inl (h.sub x e)
  len := by unfold putZ; rw [List.length_take]; omega
  all := fun x hx => by
    have hm : FirstN (insZ t L).length (fun y => y ∈ insZ t L) (insZ t L) := ⟨zqcb t L h.asc, fun _ h => h, Nat.le_refl _, fun _ h => .inl h⟩
    have hl := insZ_len t L
    have key : x ∈ insZ t L -> x ∈ putZ most L t \/ ((putZ most L t).length = most /\ ∀ y ∈ putZ most L t, LtT y x) := fun hx => by
      unfold putZ
      rcases Nat.le_total (insZ t L).length most with g | g
      · left; rw [List.take_of_length_le g]; exact hx
      · exact (zq9f hm g).all x hx
    by_cases hin : x ∈ insZ t L
    · exact key hin
    · have hx1 : x ≠ t := fun e => hin ((zq68 t L x).2 (.inl e))
      have hx2 : x ∉ L := fun e => hin ((zq68 t L x).2 (.inr e))
      rcases hx with hx | hx
      · rcases h.all x hx with e | ⟨e, f⟩
        · exact (hx2 e).elim
        · right
          refine ⟨by unfold putZ; rw [List.length_take]; omega, fun y hy => ?_⟩
          rcases (zq68 t L y).1 (List.mem_of_mem_take hy) with rfl | hy2
          · by_cases hyL : y ∈ L
            · exact f y hyL
            · -- some member of L has been dropped, and stands behind y
              have hd : ∃ z, z ∈ L /\ z ∉ putZ most L y := by
                refine Decidable.byContradiction fun hc => ?_
                have hall : ∀ z ∈ y :: L, z ∈ putZ most L y := fun z hz => by
                  rcases List.mem_cons.1 hz with rfl | hz
                  · exact hy
                  · exact Decidable.byContradiction fun q => hc ⟨z, hz, q⟩
                have := zq84 (List.nodup_cons.2 ⟨hyL, pair_nodup h.asc⟩) hall
                simp only [List.length_cons] at this
                unfold putZ at this
                rw [List.length_take] at this
                omega
              obtain ⟨z, hz, hzn⟩ := hd
              have hzi : z ∈ insZ y L := (zq68 y L z).2 (.inr hz)
              have hy3 : LtT y z := by
                unfold putZ at hzn hy
                rcases Nat.le_total (insZ y L).length most with g | g
                · rw [List.take_of_length_le g] at hzn; exact (hzn hzi).elim
                · rcases (zq9f hm g).all z hzi with q | ⟨_, q⟩
                  · exact (hzn q).elim
                  · exact q y hy
              exact hy3.trans (f z hz)
          · exact f y hy2
      · exact (hx1 hx).elim
theorem insZ_step {t : List Sym} {L : List (List Sym)} {k : Nat} (hk : k < L.length) (h : insZ t L = L.take k ++ insZ t (L.drop k)) (hb : zq13 L[k] t = -1) : insZ t L = L.take (k + 1) ++ insZ t (L.drop (k + 1)) := by
  rw [h, List.drop_eq_getElem_cons hk]
  conv => lhs; unfold insZ
  rw [if_pos hb, List.take_succ_eq_append_getElem hk, List.append_assoc]
  rfl
theorem insZ_end {t : List Sym} {L : List (List Sym)} (h : insZ t L = L.take L.length ++ insZ t (L.drop L.length)) : insZ t L = L.take L.length ++ ([t] ++ L.drop L.length) := by
  rw [h]
  simp [insZ]
theorem insZ_here {t : List Sym} {L : List (List Sym)} {k : Nat} (hk : k < L.length) (h : insZ t L = L.take k ++ insZ t (L.drop k)) (hb : zq13 L[k] t ≠ -1) : insZ t L = if zq13 t L[k] = -1 then L.take k ++ ([t] ++ L.drop k) else L := by
  rw [h, List.drop_eq_getElem_cons hk]
  conv => lhs; unfold insZ
  rw [if_neg hb]
  split
  · simp
  · rw [<- List.drop_eq_getElem_cons hk, List.take_append_drop]
end Go.Proofs.YtcfjepcflanjbaaGreat
/- Plain: sorted, repeats beside each other dropped, the first ones taken. -/
namespace Go.Proofs.YtcfjepcflanjbaaGreat
open Go.RowKit Go.Lab Go.Shelf
def LeT (a b : List Sym) : Prop := zq13 a b ≠ 1
theorem LeT.or {a b : List Sym} (h : LeT a b) : LtT a b \/ a = b := by
  rcases zq58 a b with g | ⟨_, g⟩ | g
  · exact .inl g
  · exact .inr g
  · exact (h g).elim
def dupZ (l : List Sym) : List (List Sym) -> List (List Sym)
  | [] => []
  | x :: L => if zq13 x l = 0 then dupZ l L else x :: dupZ x L
def compZ : List (List Sym) -> List (List Sym)
  | [] => []
  | x :: L => x :: dupZ x L
theorem zqd5 : ∀ (L : List (List Sym)) (l x : List Sym), (x ∈ dupZ l L -> x ∈ L) /\ (x ∈ L -> x = l \/ x ∈ dupZ l L)
  | [], l, x => by simp [dupZ]
  | y :: L, l, x => by
    unfold dupZ
    split
    · rename_i e
      have e2 := zq4c.1 e
      subst e2
      have h := zqd5 L y x
      refine ⟨fun hx => by simp [h.1 hx], fun hx => ?_⟩
      rcases List.mem_cons.1 hx with f | f
      · exact .inl f
      · exact h.2 f
    · have h := zqd5 L y x
      refine ⟨fun hx => ?_, fun hx => ?_⟩
      · rcases List.mem_cons.1 hx with f | f
        · simp [f]
        · simp [h.1 f]
      · rcases List.mem_cons.1 hx with f | f
        · right; simp [f]
        · rcases h.2 f with g | g
          · right; simp [g]
          · right; simp [g]
theorem zqce : ∀ (L : List (List Sym)) (l : List Sym), (l :: L).Pairwise LeT -> (l :: dupZ l L).Pairwise LtT
  | [], l, _ => by simp [dupZ]
  | y :: L, l, h => by
    rw [List.pairwise_cons, List.pairwise_cons] at h
    unfold dupZ
    split
    · refine zqce L l (List.pairwise_cons.2 ⟨fun x hx => h.1 x (by simp [hx]), h.2.2⟩)
    · rename_i e
      have h2 := zqce L y (List.pairwise_cons.2 h.2)
      have hly : LtT l y := by
        rcases (h.1 y (by simp)).or with g | g
        · exact g
        · exact (e (zq4c.2 g.symm)).elim
      refine List.pairwise_cons.2 ⟨fun x hx => ?_, h2⟩
      rcases List.mem_cons.1 hx with f | f
      · subst f; exact hly
      · exact hly.trans ((List.pairwise_cons.1 h2).1 x f)
theorem zqbd (L : List (List Sym)) (x : List Sym) : x ∈ compZ L ↔ x ∈ L := by
  cases L with
  | nil => simp [compZ]
  | cons y L =>
    have h := zqd5 L y x
    unfold compZ
    simp only [List.mem_cons]
    constructor
    · rintro (f | f)
      · exact .inl f
      · exact .inr (h.1 f)
    · rintro (f | f)
      · exact .inl f
      · exact h.2 f
theorem compZ_asc {L : List (List Sym)} (h : L.Pairwise LeT) : (compZ L).Pairwise LtT := by
  cases L with
  | nil => simp [compZ]
  | cons y L => exact zqce L y h
theorem firstN_comp {most : Nat} {P : List Sym -> Prop} {L : List (List Sym)} (h : L.Pairwise LeT) (hP : ∀ x, P x ↔ x ∈ L) : FirstN most P ((compZ L).take most) := by
  have h1 : FirstN (compZ L).length P (compZ L) := ⟨compZ_asc h, fun x hx => (hP x).2 ((zqbd L x).1 hx), Nat.le_refl _, fun x hx => .inl ((zqbd L x).2 ((hP x).1 hx))⟩
  rcases Nat.le_total (compZ L).length most with g | g
  · rw [List.take_of_length_le g]
    exact ⟨h1.asc, h1.sub, g, fun x hx => .inl ((zqbd L x).2 ((hP x).1 hx))⟩
  · exact zq9f h1 g
end Go.Proofs.YtcfjepcflanjbaaGreat
