/- Reader, plain: the order of reading has the fewest steps (the law ReaderWay). -/
import Derived.Test.YtfljgcpfmhhgcaaRdPm
namespace Go.Proofs.Ytfljgcpfmhhgcaa
open Go.RowKit Go.Lab
namespace OnTheWay
abbrev K := Int × Int
def kle (a b : K) : Prop := a.1 < b.1 ∨ (a.1 = b.1 ∧ a.2 ≤ b.2)
instance (a b : K) : Decidable (kle a b) := by unfold kle; infer_instance
theorem kle_trans {a b c : K} (h : kle a b) (k : kle b c) : kle a c := by unfold kle at *; omega
theorem kle_total {a b : K} (h : ¬ kle a b) : kle b a := by unfold kle at *; omega
theorem kle_anti {a b : K} (h : kle a b) (k : kle b a) : a = b := by
  unfold kle at *
  exact Prod.ext (by omega) (by omega)
/-- What a move's cost has to do with the order of reading. -/
structure OnWay (d : K → K → Int) : Prop where
  near : ∀ x y z, kle (0, 0) x → (0 ≤ x.2 ∧ 0 ≤ y.2 ∧ 0 ≤ z.2) → kle x y → kle y z → d y z ≤ d x z
  turn : ∀ a t b f, kle (0, 0) a → (0 ≤ a.2 ∧ 0 ≤ t.2 ∧ 0 ≤ b.2 ∧ 0 ≤ f.2) → kle a t → kle t b → kle b f → d a t + d t b ≤ d a b + d f t
def path (d : K → K → Int) : K → List K → Int
  | _, [] => 0
  | x, y :: r => d x y + path d y r
def ins (t : K) : List K → List K
  | [] => [t]
  | y :: r => if kle t y then t :: y :: r else y :: ins t r
theorem ins_perm (t : K) : ∀ r, (ins t r).Perm (t :: r)
  | [] => List.Perm.refl _
  | y :: r => by
    unfold ins
    split
    · exact List.Perm.refl _
    · exact ((ins_perm t r).cons y).trans (List.Perm.swap t y r)
theorem ins_sorted (t : K) : ∀ r, r.Pairwise kle → (ins t r).Pairwise kle
  | [], _ => List.pairwise_singleton _ _
  | y :: r, h => by
    obtain ⟨h1, h2⟩ := List.pairwise_cons.1 h
    unfold ins
    split
    · rename_i hty
      refine List.pairwise_cons.2 ⟨fun z hz => ?_, h⟩
      rcases List.mem_cons.1 hz with rfl | hz
      · exact hty
      · exact kle_trans hty (h1 z hz)
    · rename_i hty
      refine List.pairwise_cons.2 ⟨fun z hz => ?_, ins_sorted t r h2⟩
      rcases List.mem_cons.1 ((ins_perm t r).mem_iff.1 hz) with rfl | hz
      · exact kle_total hty
      · exact h1 z hz
def Nn (a : K) : Prop := kle (0, 0) a ∧ 0 ≤ a.2
theorem ins_path {d : K → K → Int} (hd : OnWay d) (t f : K) (ht : Nn t) : ∀ (r : List K) (x : K), (x :: r).Pairwise kle → (∀ y ∈ x :: r, Nn y) → kle x t → f ∈ x :: r → path d x (ins t r) ≤ path d x r + d f t
  | [], x, _, _, _, hf => by
    simp only [List.mem_singleton] at hf
    subst hf
    simp [ins, path]
  | y :: r, x, hp, hn, hxt, hf => by
    obtain ⟨h1, h2⟩ := List.pairwise_cons.1 hp
    obtain ⟨h3, h4⟩ := List.pairwise_cons.1 h2
    have hxy := h1 y (List.mem_cons_self ..)
    have nx := hn x (List.mem_cons_self ..)
    have ny := hn y (List.mem_cons_of_mem _ (List.mem_cons_self ..))
    have nf := hn f hf
    unfold ins
    split
    · rename_i hty
      simp only [path]
      rcases List.mem_cons.1 hf with rfl | hf
      · have := hd.near f t y nx.1 ⟨nx.2, ht.2, ny.2⟩ hxt hty
        omega
      · have hyf : kle y f := by
          rcases List.mem_cons.1 hf with rfl | hf
          · unfold kle; omega
          · exact h3 f hf
        have := hd.turn x t y f nx.1 ⟨nx.2, ht.2, ny.2, nf.2⟩ hxt hty hyf
        omega
    · rename_i hty
      have hyt := kle_total hty
      simp only [path]
      rcases List.mem_cons.1 hf with rfl | hf
      · have h5 := ins_path hd t y ht r y h2 (fun z hz => hn z (List.mem_cons_of_mem _ hz)) hyt (List.mem_cons_self ..)
        have h6 := hd.near f y t nx.1 ⟨nx.2, ny.2, ht.2⟩ hxy hyt
        omega
      · have h5 := ins_path hd t f ht r y h2 (fun z hz => hn z (List.mem_cons_of_mem _ hz)) hyt hf
        omega
def sortInto : List K → List K → List K
  | [], r => r
  | t :: o, r => sortInto o (ins t r)
theorem sortInto_perm : ∀ (o r : List K), (sortInto o r).Perm (o ++ r)
  | [], _ => List.Perm.refl _
  | t :: o, r => by
    rw [sortInto]
    refine (sortInto_perm o _).trans ?_
    refine (List.Perm.append_left o (ins_perm t r)).trans ?_
    exact List.perm_middle
theorem sortInto_sorted : ∀ (o r : List K), r.Pairwise kle → (sortInto o r).Pairwise kle
  | [], _, h => h
  | t :: o, r, h => sortInto_sorted o _ (ins_sorted t r h)
theorem path_least {d : K → K → Int} (hd : OnWay d) : ∀ (o : List K) (r : List K) (f : K), (∀ y ∈ o, Nn y) → r.Pairwise kle → (∀ y ∈ r, Nn y) → f ∈ (0, 0) :: r → path d (0, 0) (sortInto o r) ≤ path d (0, 0) r + path d f o
  | [], r, f, _, _, _, _ => by simp [sortInto, path]
  | t :: o, r, f, ho, hp, hn, hf => by
    have nt := ho t (List.mem_cons_self ..)
    have n0 : Nn (0, 0) := by simp [Nn, kle]
    have h1 := ins_path hd t f nt r (0, 0) (List.pairwise_cons.2 ⟨fun y hy => (hn y hy).1, hp⟩) (fun y hy => by
      rcases List.mem_cons.1 hy with rfl | hy
      · exact n0
      · exact hn y hy) nt.1 hf
    have h2 := path_least hd o (ins t r) t (fun y hy => ho y (List.mem_cons_of_mem _ hy)) (ins_sorted t r hp) (fun y hy => by
      rcases List.mem_cons.1 ((ins_perm t r).mem_iff.1 hy) with rfl | hy
      · exact nt
      · exact hn y hy) (List.mem_cons_of_mem _ ((ins_perm t r).mem_iff.2 (List.mem_cons_self ..)))
    rw [sortInto, path]
    omega
/-- The order of reading has the least path. -/
theorem on_way {d : K → K → Int} (hd : OnWay d) {o l : List K} (hp : o.Perm l) (hs : l.Pairwise kle) (hn : ∀ y ∈ l, Nn y) : path d (0, 0) l ≤ path d (0, 0) o := by
  have h := path_least hd o [] (0, 0) (fun y hy => hn y (hp.mem_iff.1 hy)) List.Pairwise.nil (fun _ h => by cases h) (List.mem_cons_self ..)
  have e : sortInto o [] = l := by
    refine List.Perm.eq_of_pairwise (le := kle) (fun a b _ _ h1 h2 => kle_anti h1 h2) (sortInto_sorted o [] List.Pairwise.nil) hs ?_
    have := sortInto_perm o []
    rw [List.append_nil] at this
    exact this.trans hp
  rw [e] at h
  simpa [path] using h
def d0 (a b : K) : Int := farZ a.1 b.1 + min (if 0 < farZ a.1 b.1 then b.2 else farZ a.2 b.2) 3
def d1 (a b : K) : Int := 2 * farZ a.1 b.1 + (if 0 < farZ a.1 b.1 then b.2 else farZ a.2 b.2)
theorem farZ_of_le {a b : Int} (h : a ≤ b) : farZ a b = b - a := by unfold farZ; omega
theorem farZ_of_ge {a b : Int} (h : b ≤ a) : farZ a b = a - b := by unfold farZ; omega
theorem onWay0 : OnWay d0 := by
  constructor
  · rintro ⟨x1, x2⟩ ⟨y1, y2⟩ ⟨z1, z2⟩ h0 ⟨h1, h2, h3⟩ h4 h5
    simp only [kle] at *
    have e1 : farZ y1 z1 = z1 - y1 := farZ_of_le (by omega)
    have e2 : farZ x1 z1 = z1 - x1 := farZ_of_le (by omega)
    simp only [d0, e1, e2]
    unfold farZ
    split <;> split <;> omega
  · rintro ⟨x1, x2⟩ ⟨y1, y2⟩ ⟨z1, z2⟩ ⟨f1, f2⟩ h0 ⟨h1, h2, h3, h4⟩ h5 h6 h7
    simp only [kle] at *
    have e1 : farZ x1 y1 = y1 - x1 := farZ_of_le (by omega)
    have e2 : farZ y1 z1 = z1 - y1 := farZ_of_le (by omega)
    have e3 : farZ x1 z1 = z1 - x1 := farZ_of_le (by omega)
    have e4 : farZ f1 y1 = f1 - y1 := farZ_of_ge (by omega)
    simp only [d0, e1, e2, e3, e4]
    unfold farZ
    split <;> split <;> split <;> split <;> omega
theorem onWay1 : OnWay d1 := by
  constructor
  · rintro ⟨x1, x2⟩ ⟨y1, y2⟩ ⟨z1, z2⟩ h0 ⟨h1, h2, h3⟩ h4 h5
    simp only [kle] at *
    have e1 : farZ y1 z1 = z1 - y1 := farZ_of_le (by omega)
    have e2 : farZ x1 z1 = z1 - x1 := farZ_of_le (by omega)
    simp only [d1, e1, e2]
    unfold farZ
    split <;> split <;> omega
  · rintro ⟨x1, x2⟩ ⟨y1, y2⟩ ⟨z1, z2⟩ ⟨f1, f2⟩ h0 ⟨h1, h2, h3, h4⟩ h5 h6 h7
    simp only [kle] at *
    have e1 : farZ x1 y1 = y1 - x1 := farZ_of_le (by omega)
    have e2 : farZ y1 z1 = z1 - y1 := farZ_of_le (by omega)
    have e3 : farZ x1 z1 = z1 - x1 := farZ_of_le (by omega)
    have e4 : farZ f1 y1 = f1 - y1 := farZ_of_ge (by omega)
    simp only [d1, e1, e2, e3, e4]
    unfold farZ
    split <;> split <;> split <;> split <;> omega
/-- Where a place stands: its page and line; for Speech and Panning its line alone. -/
def key (way : Int) (p : Pl) : K := if way < 2 then (p.page, p.line) else (0, p.line)
def dst (way : Int) : K → K → Int := if way = 0 then d0 else d1
def byZ (way : Int) : Int := if way = 0 then 10 else if way = 2 then 200 else 4
theorem cost_key {way : Int} (h0 : 0 ≤ way) (h3 : way ≤ 3) (a b : Pl) : costZ way a b = dst way (key way a) (key way b) + upZ b.len (byZ way) := by
  have h : way = 0 ∨ way = 1 ∨ way = 2 ∨ way = 3 := by omega
  rcases h with rfl | rfl | rfl | rfl
  · rfl
  · rfl
  · show farZ a.line b.line + upZ b.len 200 = (2 * farZ 0 0 + (if 0 < farZ 0 0 then b.line else farZ a.line b.line)) + upZ b.len 200
    rw [if_neg (by unfold farZ; omega)]
    unfold farZ
    omega
  · show farZ a.line b.line + upZ b.len 4 = (2 * farZ 0 0 + (if 0 < farZ 0 0 then b.line else farZ a.line b.line)) + upZ b.len 4
    rw [if_neg (by unfold farZ; omega)]
    unfold farZ
    omega
theorem dst_onWay (way : Int) : OnWay (dst way) := by
  unfold dst
  split
  · exact onWay0
  · exact onWay1
def upSum (way : Int) (L : List Pl) : Int := (L.map fun p => upZ p.len (byZ way)).sum
theorem steps_key {way : Int} (h0 : 0 ≤ way) (h3 : way ≤ 3) (pl : List Pl) : ∀ (o : List Int) (f : Pl), stepsGo way pl f o = path (dst way) (key way f) ((needL pl o).map (key way)) + upSum way (needL pl o)
  | [], f => by simp [stepsGo, path, needL, upSum]
  | x :: o, f => by
    have h := steps_key h0 h3 pl o (lp pl x.toNat)
    rw [stepsGo, h, cost_key h0 h3]
    simp only [needL, List.map_cons, path, upSum, List.sum_cons, lp]
    omega
theorem key_nn {way : Int} {p : Pl} (h : PlOk p) : Nn (key way p) := by
  obtain ⟨h1, h2, h3, h4, _⟩ := h
  unfold key Nn kle
  split <;> (simp only [true_and]; omega)
theorem key0 (way : Int) : key way pl0 = (0, 0) := by
  unfold key
  split <;> rfl
theorem sum_perm {l m : List Int} (h : l.Perm m) : l.sum = m.sum := by
  induction h with
  | nil => rfl
  | cons x _ ih => simp only [List.sum_cons, ih]
  | swap x y l => simp only [List.sum_cons]; omega
  | trans _ _ h1 h2 => exact h1.trans h2
/-- Reading order is best. -/
theorem way_best {way : Int} (h0 : 0 ≤ way) (h3 : way ≤ 3) {pl : List Pl} {need : List Int} (hok : ∀ p ∈ pl, PlOk p) (hn : need.length ≤ 8) (hs : ((needL pl need).map (key way)).Pairwise kle) :
    restV way (needL pl need) (2 ^ need.length - 1) pl0 = stepsZ way pl need := by
  have h1 := fewer (way := way) hok hn (List.Perm.refl need)
  have h2 := orderZ_steps (way := way) (pl := pl) hn
  have hp := orderZ_perm (way := way) (pl := pl) hn
  have h4 : stepsZ way pl need ≤ stepsZ way pl (orderZ way (needL pl need) need) := by
    generalize orderZ way (needL pl need) need = o at *
    unfold stepsZ
    rw [steps_key h0 h3, steps_key h0 h3, key0]
    have hm : ((needL pl o).map (key way)).Perm ((needL pl need).map (key way)) := (hp.map _).map _
    have h5 := on_way (dst_onWay way) hm hs (fun y hy => by
      obtain ⟨p, hp2, rfl⟩ := List.mem_map.1 hy
      exact key_nn (needL_ok hok p hp2))
    have h6 : upSum way (needL pl o) = upSum way (needL pl need) := sum_perm ((hp.map _).map _)
    omega
  omega
theorem keys_sorted {way : Int} {pl : List Pl} {need : List Int} (hs : (pl.map (key way)).Pairwise kle) (hn : need.Pairwise (· < ·)) (hm : ∀ x ∈ need, 0 ≤ x ∧ x < pl.length) : ((needL pl need).map (key way)).Pairwise kle := by
  unfold needL
  rw [List.map_map, List.pairwise_map]
  refine List.Pairwise.imp_of_mem ?_ hn
  intro a b ha hb hab
  obtain ⟨a0, a1⟩ := hm a ha
  obtain ⟨b0, b1⟩ := hm b hb
  have hi : a.toNat < pl.length := by omega
  have hj : b.toNat < pl.length := by omega
  have hij : a.toNat < b.toNat := by omega
  have h := List.pairwise_iff_getElem.1 hs a.toNat b.toNat (by simpa using hi) (by simpa using hj) hij
  simp only [List.getElem_map] at h
  simp only [Function.comp, List.getD, List.getElem?_eq_getElem hi, List.getElem?_eq_getElem hj, Option.getD_some]
  exact h
theorem ahead_sorted {way : Int} (hw : way < 2) {pl : List Pl} (hs : pl.Pairwise fun a b => a.page < b.page ∨ (a.page = b.page ∧ a.line ≤ b.line)) : (pl.map (key way)).Pairwise kle := by
  rw [List.pairwise_map]
  refine hs.imp ?_
  intro a b h
  unfold key kle
  rw [if_pos hw, if_pos hw]
  exact h
theorem line_sorted {way : Int} (hw : ¬ way < 2) {pl : List Pl} (hs : pl.Pairwise fun a b => a.line ≤ b.line) : (pl.map (key way)).Pairwise kle := by
  rw [List.pairwise_map]
  refine hs.imp ?_
  intro a b h
  unfold key kle
  rw [if_neg hw, if_neg hw]
  exact .inr ⟨rfl, h⟩
/-- For Speech and Panning: the line of the last place, and the divided lengths. -/
theorem path_line {way : Int} (hw : ¬ way < 2) : ∀ (L : List Pl) (f : Pl), (f :: L).Pairwise (fun a b => a.line ≤ b.line) → path (dst way) (key way f) (L.map (key way)) = ((f :: L).getLast (by simp)).line - f.line
  | [], f, _ => by simp [path]
  | p :: L, f, h => by
    obtain ⟨h1, h2⟩ := List.pairwise_cons.1 h
    have hp := h1 p (List.mem_cons_self ..)
    have ih := path_line hw L p h2
    rw [List.map_cons, path, ih, List.getLast_cons (List.cons_ne_nil p L)]
    have e : dst way (key way f) (key way p) = p.line - f.line := by
      unfold dst
      rw [if_neg (by omega)]
      unfold key
      rw [if_neg hw, if_neg hw]
      unfold d1 farZ
      simp only
      rw [if_neg (by omega)]
      omega
    omega
theorem steps_line {way : Int} (h2 : 2 ≤ way) (h3 : way ≤ 3) {pl : List Pl} {need : List Int} (hok : ∀ p ∈ pl, PlOk p) (hne : needL pl need ≠ []) (hs : (needL pl need).Pairwise fun a b => a.line ≤ b.line) :
    stepsZ way pl need = ((needL pl need).getLast hne).line + upSum way (needL pl need) := by
  unfold stepsZ
  rw [steps_key (by omega) h3]
  have hl := path_line (way := way) (by omega) (needL pl need) pl0 (List.pairwise_cons.2 ⟨fun p hp => (needL_ok hok p hp).2.2.1, hs⟩)
  rw [hl, List.getLast_cons hne]
  show _ - 0 + _ = _
  omega
end OnTheWay
end Go.Proofs.Ytfljgcpfmhhgcaa
