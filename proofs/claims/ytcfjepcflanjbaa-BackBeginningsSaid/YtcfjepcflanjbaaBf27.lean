/- Plain: the order of texts; the first ones of a set. -/
import Derived.Test.YtcfjepcflanjbaaBf26
namespace Go.Proofs.Ytcfjepcflanjbaa
open Go.RowKit Go.Lab Go.Shelf
theorem symCmp_cases (x y : Sym) : (symCmp x y = -1 ∧ (x.lang < y.lang ∨ (x.lang = y.lang ∧ x.c < y.c))) ∨ (symCmp x y = 0 ∧ x = y) ∨ (symCmp x y = 1 ∧ (y.lang < x.lang ∨ (x.lang = y.lang ∧ y.c < x.c))) := by
  obtain ⟨a, b⟩ := x
  obtain ⟨c, d⟩ := y
  unfold symCmp orZ cmpI
  simp only [Sym.mk.injEq]
  by_cases h1 : a < c
  · left; simp [h1]
  · by_cases h2 : c < a
    · right; right; simp [h1, h2]
    · have e : a = c := by omega
      subst e
      by_cases h3 : b < d
      · left; simp [h3]
      · by_cases h4 : d < b
        · right; right; simp [h3, h4]
        · right; left; simp [h3, h4]; omega
theorem textCmp_self : ∀ a : List Sym, textCmp a a = 0
  | [] => rfl
  | x :: a => by
    rcases symCmp_cases x x with ⟨_, h⟩ | ⟨h, _⟩ | ⟨_, h⟩
    · omega
    · unfold textCmp; rw [if_neg (by simp [h])]; exact textCmp_self a
    · omega
theorem textCmp_cases : ∀ a b : List Sym, textCmp a b = -1 ∨ (textCmp a b = 0 ∧ a = b) ∨ textCmp a b = 1
  | [], [] => .inr (.inl ⟨rfl, rfl⟩)
  | [], _ :: _ => .inl rfl
  | _ :: _, [] => .inr (.inr rfl)
  | x :: a, y :: b => by
    unfold textCmp
    rcases symCmp_cases x y with ⟨h, _⟩ | ⟨h, e⟩ | ⟨h, _⟩
    · left; rw [if_pos (by omega)]; exact h
    · rw [if_neg (by simp [h])]
      rcases textCmp_cases a b with g | ⟨g, f⟩ | g
      · exact .inl g
      · exact .inr (.inl ⟨g, by rw [e, f]⟩)
      · exact .inr (.inr g)
    · right; right; rw [if_pos (by omega)]; exact h
theorem textCmp_zero {a b : List Sym} : textCmp a b = 0 ↔ a = b := by
  constructor
  · intro h
    rcases textCmp_cases a b with g | ⟨_, g⟩ | g
    · omega
    · exact g
    · omega
  · rintro rfl; exact textCmp_self a
theorem symCmp_neg (x y : Sym) : symCmp y x = - symCmp x y := by
  rcases symCmp_cases x y with ⟨h, g⟩ | ⟨h, e⟩ | ⟨h, g⟩ <;> rcases symCmp_cases y x with ⟨h', g'⟩ | ⟨h', e'⟩ | ⟨h', g'⟩ <;> first | omega | (subst e; omega) | (subst e'; omega)
theorem textCmp_neg : ∀ a b : List Sym, textCmp b a = - textCmp a b
  | [], [] => rfl
  | [], _ :: _ => rfl
  | _ :: _, [] => rfl
  | x :: a, y :: b => by
    unfold textCmp
    rw [symCmp_neg x y]
    by_cases h : symCmp x y = 0
    · rw [if_neg (by simp [h]), if_neg (by simp [h])]; exact textCmp_neg a b
    · rw [if_pos (by omega), if_pos h]
def LtT (a b : List Sym) : Prop := textCmp a b = -1
theorem symLt_trans {x y z : Sym} (h : symCmp x y = -1) (g : symCmp y z = -1) : symCmp x z = -1 := by
  rcases symCmp_cases x y with ⟨_, h1⟩ | ⟨h1, _⟩ | ⟨h1, _⟩ <;> rcases symCmp_cases y z with ⟨_, h2⟩ | ⟨h2, _⟩ | ⟨h2, _⟩ <;> rcases symCmp_cases x z with ⟨h3, h4⟩ | ⟨h3, h4⟩ | ⟨h3, h4⟩ <;> first | exact h3 | omega | (subst h4; omega)
theorem LtT.trans : ∀ {a b c : List Sym}, LtT a b → LtT b c → LtT a c
  | [], [], c => fun h _ => by simp [LtT, textCmp] at h
  | [], _ :: _, [] => fun _ g => by simp [LtT, textCmp] at g
  | [], _ :: _, _ :: _ => fun _ _ => rfl
  | _ :: _, [], c => fun h _ => by simp [LtT, textCmp] at h
  | _ :: _, _ :: _, [] => fun _ g => by simp [LtT, textCmp] at g
  | x :: a, y :: b, z :: c => fun h g => by
    unfold LtT textCmp at h g ⊢
    rcases symCmp_cases x y with ⟨e, _⟩ | ⟨e, rfl⟩ | ⟨e, _⟩
    · rcases symCmp_cases y z with ⟨f, _⟩ | ⟨f, rfl⟩ | ⟨f, _⟩
      · rw [if_pos (by rw [symLt_trans e f]; omega)]; exact symLt_trans e f
      · rw [if_pos (by omega)]; exact e
      · rw [if_pos (by omega)] at g; omega
    · rw [if_neg (by omega)] at h
      by_cases f : symCmp x z = 0
      · rw [if_neg (by omega)] at g ⊢; exact LtT.trans h g
      · rw [if_pos f] at g ⊢; exact g
    · rw [if_pos (by omega)] at h; omega
theorem LtT.irrefl {a : List Sym} (h : LtT a a) : False := by
  unfold LtT at h
  rw [textCmp_self] at h
  omega
theorem LtT.asymm {a b : List Sym} (h : LtT a b) (g : LtT b a) : False := (h.trans g).irrefl
theorem LtT.total (a b : List Sym) : LtT a b ∨ a = b ∨ LtT b a := by
  rcases textCmp_cases a b with h | ⟨_, h⟩ | h
  · exact .inl h
  · exact .inr (.inl h)
  · refine .inr (.inr ?_)
    unfold LtT
    rw [textCmp_neg a b, h]
/-- L is the first ones, `most` at the greatest, of the texts that P tells, ascending and without repeats. -/
structure FirstN (most : Nat) (P : List Sym → Prop) (L : List (List Sym)) : Prop where
  asc : L.Pairwise LtT
  sub : ∀ x ∈ L, P x
  len : L.length ≤ most
  all : ∀ x, P x → x ∈ L ∨ (L.length = most ∧ ∀ y ∈ L, LtT y x)
theorem firstN_take {most n : Nat} {P : List Sym → Prop} {L : List (List Sym)} (h : FirstN most P L) (hn : n ≤ most) : FirstN n P (L.take n) where
  asc := h.asc.sublist (List.take_sublist _ _)
  sub := fun x hx => h.sub x (List.mem_of_mem_take hx)
  len := by rw [List.length_take]; omega
  all := fun x hx => by
    rcases h.all x hx with g | ⟨g, f⟩
    · obtain ⟨i, hi, rfl⟩ := List.getElem_of_mem g
      by_cases hin : i < n
      · left
        exact List.mem_of_getElem? (by rw [List.getElem?_take, if_pos hin, List.getElem?_eq_getElem hi])
      · right
        refine ⟨by rw [List.length_take]; omega, fun y hy => ?_⟩
        obtain ⟨j, hj, rfl⟩ := List.getElem_of_mem hy
        rw [List.length_take] at hj
        rw [List.getElem_take]
        exact List.pairwise_iff_getElem.1 h.asc j i (by omega) hi (by omega)
    · right
      exact ⟨by rw [List.length_take]; omega, fun y hy => f y (List.mem_of_mem_take hy)⟩
theorem asc_one : ∀ {L M : List (List Sym)}, L.Pairwise LtT → M.Pairwise LtT → (∀ x, x ∈ L ↔ x ∈ M) → L = M
  | [], [], _, _, _ => rfl
  | [], y :: M, _, _, h => by have := (h y).2 (by simp); cases this
  | x :: L, [], _, _, h => by have := (h x).1 (by simp); cases this
  | x :: L, y :: M, hL, hM, h => by
    rw [List.pairwise_cons] at hL hM
    have e : x = y := by
      rcases List.mem_cons.1 ((h x).1 (by simp)) with e | e
      · exact e
      · rcases List.mem_cons.1 ((h y).2 (by simp)) with f | f
        · exact f.symm
        · exact ((hM.1 x e).asymm (hL.1 y f)).elim
    subst e
    refine congrArg (x :: ·) (asc_one hL.2 hM.2 fun z => ⟨fun hz => ?_, fun hz => ?_⟩)
    · rcases List.mem_cons.1 ((h z).1 (by simp [hz])) with f | f
      · subst f; exact ((hL.1 _ hz).irrefl).elim
      · exact f
    · rcases List.mem_cons.1 ((h z).2 (by simp [hz])) with f | f
      · subst f; exact ((hM.1 _ hz).irrefl).elim
      · exact f
theorem pair_nodup {L : List (List Sym)} (h : L.Pairwise LtT) : L.Nodup := h.imp fun hab e => by subst e; exact hab.irrefl
theorem nodup_sub_len : ∀ {A B : List (List Sym)}, A.Nodup → (∀ x ∈ A, x ∈ B) → A.length ≤ B.length
  | [], _, _, _ => Nat.zero_le _
  | a :: A, B, hn, hs => by
    rw [List.nodup_cons] at hn
    have ha := hs a (by simp)
    have h := nodup_sub_len (A := A) (B := B.erase a) hn.2 (fun x hx => (List.mem_erase_of_ne (show x ≠ a from fun e => hn.1 (by rw [← e]; exact hx))).2 (hs x (by simp [hx])))
    rw [List.length_erase_of_mem ha] at h
    have := List.length_pos_of_mem ha
    simp only [List.length_cons]
    omega
/-- What is in L and not in M stands behind all of M; the same the other way: so none. -/
theorem FirstN.sub_of {most : Nat} {P : List Sym → Prop} {L M : List (List Sym)} (hL : FirstN most P L) (hM : FirstN most P M) : ∀ x ∈ L, x ∈ M := by
  intro x hx
  rcases hM.all x (hL.sub x hx) with h | ⟨h1, h2⟩
  · exact h
  · exfalso
    have hs : ∀ y ∈ M, y ∈ L := fun y hy => by
      rcases hL.all y (hM.sub y hy) with g | ⟨_, g⟩
      · exact g
      · exact ((h2 y hy).asymm (g x hx)).elim
    have hx2 : x ∉ M := fun e => (h2 x e).irrefl
    have hn : (x :: M).Nodup := List.nodup_cons.2 ⟨hx2, pair_nodup hM.asc⟩
    have hle := nodup_sub_len hn (B := L) (fun y hy => by
      rcases List.mem_cons.1 hy with rfl | hy
      · exact hx
      · exact hs y hy)
    have := hL.len
    simp only [List.length_cons] at hle
    omega
theorem FirstN.one {most : Nat} {P : List Sym → Prop} {L M : List (List Sym)} (hL : FirstN most P L) (hM : FirstN most P M) : L = M :=
  asc_one hL.asc hM.asc fun x => ⟨hL.sub_of hM x, hM.sub_of hL x⟩
theorem FirstN.congr {most : Nat} {P Q : List Sym → Prop} {L : List (List Sym)} (h : FirstN most P L) (e : ∀ x, P x ↔ Q x) : FirstN most Q L :=
  ⟨h.asc, fun x hx => (e x).1 (h.sub x hx), h.len, fun x hx => h.all x ((e x).2 hx)⟩
end Go.Proofs.Ytcfjepcflanjbaa
/- Plain: a text put into the first ones. -/
namespace Go.Proofs.Ytcfjepcflanjbaa
open Go.RowKit Go.Lab Go.Shelf
def insZ (t : List Sym) : List (List Sym) → List (List Sym)
  | [] => [t]
  | y :: L => if textCmp y t = -1 then y :: insZ t L else if textCmp t y = -1 then t :: y :: L else y :: L
def putZ (most : Nat) (L : List (List Sym)) (t : List Sym) : List (List Sym) := (insZ t L).take most
theorem insZ_mem (t : List Sym) : ∀ L : List (List Sym), ∀ x, x ∈ insZ t L ↔ x = t ∨ x ∈ L
  | [], x => by simp [insZ]
  | y :: L, x => by
    unfold insZ
    split
    · simp only [List.mem_cons, insZ_mem t L x]
      constructor
      · rintro (h | h | h) <;> simp [h]
      · rintro (h | h | h) <;> simp [h]
    · split
      · simp only [List.mem_cons]
      · rename_i h g
        have e : t = y := by
          rcases LtT.total y t with a | a | a
          · exact (h a).elim
          · exact a.symm
          · exact (g a).elim
        subst e
        simp
theorem insZ_asc (t : List Sym) : ∀ L : List (List Sym), L.Pairwise LtT → (insZ t L).Pairwise LtT
  | [], _ => by simp [insZ]
  | y :: L, h => by
    rw [List.pairwise_cons] at h
    unfold insZ
    split
    · rename_i e
      rw [List.pairwise_cons]
      refine ⟨fun x hx => ?_, insZ_asc t L h.2⟩
      rcases (insZ_mem t L x).1 hx with rfl | hx
      · exact e
      · exact h.1 x hx
    · split
      · rename_i e
        rw [List.pairwise_cons, List.pairwise_cons]
        refine ⟨fun x hx => ?_, h⟩
        rcases List.mem_cons.1 hx with rfl | hx
        · exact e
        · exact LtT.trans (show LtT t y from e) (h.1 x hx)
      · rw [List.pairwise_cons]; exact h
theorem insZ_len (t : List Sym) : ∀ L : List (List Sym), L.length ≤ (insZ t L).length
  | [] => Nat.zero_le _
  | y :: L => by
    have h := insZ_len t L
    unfold insZ
    split
    · simp only [List.length_cons]; omega
    · split
      · simp only [List.length_cons]; omega
      · exact Nat.le_refl _
theorem firstN_put {most : Nat} {P : List Sym → Prop} {L : List (List Sym)} (h : FirstN most P L) (t : List Sym) : FirstN most (fun x => P x ∨ x = t) (putZ most L t) where
  asc := (insZ_asc t L h.asc).sublist (List.take_sublist _ _)
  sub := fun x hx => by
    rcases (insZ_mem t L x).1 (List.mem_of_mem_take hx) with e | e
    · exact .inr e
    · exact .inl (h.sub x e)
  len := by unfold putZ; rw [List.length_take]; omega
  all := fun x hx => by
    have hm : FirstN (insZ t L).length (fun y => y ∈ insZ t L) (insZ t L) := ⟨insZ_asc t L h.asc, fun _ h => h, Nat.le_refl _, fun _ h => .inl h⟩
    have hl := insZ_len t L
    have key : x ∈ insZ t L → x ∈ putZ most L t ∨ ((putZ most L t).length = most ∧ ∀ y ∈ putZ most L t, LtT y x) := fun hx => by
      unfold putZ
      rcases Nat.le_total (insZ t L).length most with g | g
      · left; rw [List.take_of_length_le g]; exact hx
      · exact (firstN_take hm g).all x hx
    by_cases hin : x ∈ insZ t L
    · exact key hin
    · have hx1 : x ≠ t := fun e => hin ((insZ_mem t L x).2 (.inl e))
      have hx2 : x ∉ L := fun e => hin ((insZ_mem t L x).2 (.inr e))
      rcases hx with hx | hx
      · rcases h.all x hx with e | ⟨e, f⟩
        · exact (hx2 e).elim
        · right
          refine ⟨by unfold putZ; rw [List.length_take]; omega, fun y hy => ?_⟩
          rcases (insZ_mem t L y).1 (List.mem_of_mem_take hy) with rfl | hy2
          · by_cases hyL : y ∈ L
            · exact f y hyL
            · -- some member of L has been dropped, and stands behind y
              have hd : ∃ z, z ∈ L ∧ z ∉ putZ most L y := by
                refine Decidable.byContradiction fun hc => ?_
                have hall : ∀ z ∈ y :: L, z ∈ putZ most L y := fun z hz => by
                  rcases List.mem_cons.1 hz with rfl | hz
                  · exact hy
                  · exact Decidable.byContradiction fun q => hc ⟨z, hz, q⟩
                have := nodup_sub_len (List.nodup_cons.2 ⟨hyL, pair_nodup h.asc⟩) hall
                simp only [List.length_cons] at this
                unfold putZ at this
                rw [List.length_take] at this
                omega
              obtain ⟨z, hz, hzn⟩ := hd
              have hzi : z ∈ insZ y L := (insZ_mem y L z).2 (.inr hz)
              have hy3 : LtT y z := by
                unfold putZ at hzn hy
                rcases Nat.le_total (insZ y L).length most with g | g
                · rw [List.take_of_length_le g] at hzn; exact (hzn hzi).elim
                · rcases (firstN_take hm g).all z hzi with q | ⟨_, q⟩
                  · exact (hzn q).elim
                  · exact q y hy
              exact hy3.trans (f z hz)
          · exact f y hy2
      · exact (hx1 hx).elim
theorem insZ_step {t : List Sym} {L : List (List Sym)} {k : Nat} (hk : k < L.length) (h : insZ t L = L.take k ++ insZ t (L.drop k)) (hb : textCmp L[k] t = -1) : insZ t L = L.take (k + 1) ++ insZ t (L.drop (k + 1)) := by
  rw [h, List.drop_eq_getElem_cons hk]
  conv => lhs; unfold insZ
  rw [if_pos hb, List.take_succ_eq_append_getElem hk, List.append_assoc]
  rfl
theorem insZ_end {t : List Sym} {L : List (List Sym)} (h : insZ t L = L.take L.length ++ insZ t (L.drop L.length)) : insZ t L = L.take L.length ++ ([t] ++ L.drop L.length) := by
  rw [h]
  simp [insZ]
theorem insZ_here {t : List Sym} {L : List (List Sym)} {k : Nat} (hk : k < L.length) (h : insZ t L = L.take k ++ insZ t (L.drop k)) (hb : textCmp L[k] t ≠ -1) : insZ t L = if textCmp t L[k] = -1 then L.take k ++ ([t] ++ L.drop k) else L := by
  rw [h, List.drop_eq_getElem_cons hk]
  conv => lhs; unfold insZ
  rw [if_neg hb]
  split
  · simp
  · rw [← List.drop_eq_getElem_cons hk, List.take_append_drop]
end Go.Proofs.Ytcfjepcflanjbaa
/- Plain: sorted, repeats beside each other dropped, the first ones taken. -/
namespace Go.Proofs.Ytcfjepcflanjbaa
open Go.RowKit Go.Lab Go.Shelf
/-- Not behind. -/
def LeT (a b : List Sym) : Prop := textCmp a b ≠ 1
theorem LeT.or {a b : List Sym} (h : LeT a b) : LtT a b ∨ a = b := by
  rcases textCmp_cases a b with g | ⟨_, g⟩ | g
  · exact .inl g
  · exact .inr g
  · exact (h g).elim
/-- What CompactFunc leaves: one of those alike that stand beside each other. -/
def dupZ (l : List Sym) : List (List Sym) → List (List Sym)
  | [] => []
  | x :: L => if textCmp x l = 0 then dupZ l L else x :: dupZ x L
def compZ : List (List Sym) → List (List Sym)
  | [] => []
  | x :: L => x :: dupZ x L
theorem dupZ_mem : ∀ (L : List (List Sym)) (l x : List Sym), (x ∈ dupZ l L → x ∈ L) ∧ (x ∈ L → x = l ∨ x ∈ dupZ l L)
  | [], l, x => by simp [dupZ]
  | y :: L, l, x => by
    unfold dupZ
    split
    · rename_i e
      have e2 := textCmp_zero.1 e
      subst e2
      have h := dupZ_mem L y x
      refine ⟨fun hx => by simp [h.1 hx], fun hx => ?_⟩
      rcases List.mem_cons.1 hx with f | f
      · exact .inl f
      · exact h.2 f
    · have h := dupZ_mem L y x
      refine ⟨fun hx => ?_, fun hx => ?_⟩
      · rcases List.mem_cons.1 hx with f | f
        · simp [f]
        · simp [h.1 f]
      · rcases List.mem_cons.1 hx with f | f
        · right; simp [f]
        · rcases h.2 f with g | g
          · right; simp [g]
          · right; simp [g]
theorem dupZ_asc : ∀ (L : List (List Sym)) (l : List Sym), (l :: L).Pairwise LeT → (l :: dupZ l L).Pairwise LtT
  | [], l, _ => by simp [dupZ]
  | y :: L, l, h => by
    rw [List.pairwise_cons, List.pairwise_cons] at h
    unfold dupZ
    split
    · refine dupZ_asc L l (List.pairwise_cons.2 ⟨fun x hx => h.1 x (by simp [hx]), h.2.2⟩)
    · rename_i e
      have h2 := dupZ_asc L y (List.pairwise_cons.2 h.2)
      have hly : LtT l y := by
        rcases (h.1 y (by simp)).or with g | g
        · exact g
        · exact (e (textCmp_zero.2 g.symm)).elim
      refine List.pairwise_cons.2 ⟨fun x hx => ?_, h2⟩
      rcases List.mem_cons.1 hx with f | f
      · subst f; exact hly
      · exact hly.trans ((List.pairwise_cons.1 h2).1 x f)
theorem compZ_mem (L : List (List Sym)) (x : List Sym) : x ∈ compZ L ↔ x ∈ L := by
  cases L with
  | nil => simp [compZ]
  | cons y L =>
    have h := dupZ_mem L y x
    unfold compZ
    simp only [List.mem_cons]
    constructor
    · rintro (f | f)
      · exact .inl f
      · exact .inr (h.1 f)
    · rintro (f | f)
      · exact .inl f
      · exact h.2 f
theorem compZ_asc {L : List (List Sym)} (h : L.Pairwise LeT) : (compZ L).Pairwise LtT := by
  cases L with
  | nil => simp [compZ]
  | cons y L => exact dupZ_asc L y h
theorem firstN_comp {most : Nat} {P : List Sym → Prop} {L : List (List Sym)} (h : L.Pairwise LeT) (hP : ∀ x, P x ↔ x ∈ L) : FirstN most P ((compZ L).take most) := by
  have h1 : FirstN (compZ L).length P (compZ L) := ⟨compZ_asc h, fun x hx => (hP x).2 ((compZ_mem L x).1 hx), Nat.le_refl _, fun x hx => .inl ((compZ_mem L x).2 ((hP x).1 hx))⟩
  rcases Nat.le_total (compZ L).length most with g | g
  · rw [List.take_of_length_le g]
    exact ⟨h1.asc, h1.sub, g, fun x hx => .inl ((compZ_mem L x).2 ((hP x).1 hx))⟩
  · exact firstN_take h1 g
end Go.Proofs.Ytcfjepcflanjbaa
