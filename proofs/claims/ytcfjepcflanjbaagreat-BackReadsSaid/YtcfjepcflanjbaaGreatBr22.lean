/- Plain: the places that are reached, by the number of cells. -/
import Derived.Test.YtcfjepcflanjbaaGreatBr21
import Derived.Test.YtcfjepcflanjbaaGreatBr15
namespace Go.Proofs.YtcfjepcflanjbaaGreat
open Go.RowKit Go.Lab Go.Shelf
def PlOk (p : PlZ) : Prop := (p.st.lang = 0 \/ p.st.lang = 1) /\ p.need <= 2
def pl0 : PlZ := ⟨⟨0, false, false⟩, 0, false⟩
theorem zqa2 : PlOk pl0 := ⟨.inl rfl, Nat.zero_le _⟩
def plN (p : PlZ) : Nat := p.need * 16 + ((if p.sw = true then 1 else 0) * 8 + (p.st.lang.toNat * 4 + ((if p.st.num = true then 1 else 0) * 2 + (if p.st.word = true then 1 else 0))))
theorem plN_lt {p : PlZ} (h : PlOk p) : plN p < 48 := by
  obtain ⟨⟨l, u, v⟩, n, s⟩ := p
  obtain ⟨h1, h2⟩ := h
  simp only at h1 h2
  unfold plN
  simp only
  have : l.toNat <= 1 := by omega
  split <;> split <;> split <;> omega
theorem plN_inj {p q : PlZ} (hp : PlOk p) (hq : PlOk q) (h : plN p = plN q) : p = q := by
  obtain ⟨⟨l, u, v⟩, n, s⟩ := p
  obtain ⟨⟨l', u', v'⟩, n', s'⟩ := q
  obtain ⟨h1, h2⟩ := hp
  obtain ⟨g1, g2⟩ := hq
  simp only at h1 h2 g1 g2
  unfold plN at h
  simp only at h
  have e1 : l.toNat <= 1 := by omega
  have e2 : l'.toNat <= 1 := by omega
  have hn : n = n' := by revert h; split <;> split <;> split <;> split <;> split <;> split <;> omega
  subst hn
  have hl : l = l' := by revert h; split <;> split <;> split <;> split <;> split <;> split <;> omega
  subst hl
  cases u <;> cases u' <;> cases v <;> cases v' <;> cases s <;> cases s' <;> first | rfl | (exfalso; simp at h; done) | (exfalso; simp at h; omega)
theorem zq61 {l : List PlZ} (hn : l.Nodup) (ho : ∀ p ∈ l, PlOk p) : l.length <= 48 :=
  nodup_code_length plN 48 l hn (fun x hx y hy e => plN_inj (ho x hx) (ho y hy) e) (fun x hx => plN_lt (ho x hx))
def stepL (C : List Int) (k : Nat) (ls : List (List PlZ)) (m : MvZ) : List (List PlZ) :=
  if begB (C.drop k) m.cells = true /\ m.dst ∉ ls.getD (k + m.cells.length) [] then ls.set (k + m.cells.length) (ls.getD (k + m.cells.length) [] ++ [m.dst]) else ls
def LsOk (n : Nat) (ls : List (List PlZ)) : Prop := ls.length = n + 1 /\ ∀ k, (ls.getD k []).Nodup /\ ∀ q ∈ ls.getD k [], PlOk q
theorem zq92 (ls : List (List PlZ)) (i j : Nat) (x : List PlZ) (h : i < ls.length) : (ls.set i x).getD j [] = if j = i then x else ls.getD j [] := by
  rw [List.getD_eq_getElem?_getD, List.getElem?_set]
  by_cases hj : j = i
  · subst hj
    simp [h]
  · rw [if_neg (fun e => hj e.symm), if_neg hj, List.getD_eq_getElem?_getD]
theorem zq4b {C c : List Int} {k : Nat} (hk : k <= C.length) (h : begB (C.drop k) c = true) : k + c.length <= C.length := by
  have := begB_len h
  rw [List.length_drop] at this
  omega
theorem stepL_len (C : List Int) (k : Nat) (ls : List (List PlZ)) (m : MvZ) : (stepL C k ls m).length = ls.length := by
  unfold stepL
  split <;> simp
theorem zq81 {C : List Int} {k : Nat} {ls : List (List PlZ)} (hl : ls.length = C.length + 1) (hk : k <= C.length) (m : MvZ) (j : Nat) :
    (stepL C k ls m).getD j [] = if (begB (C.drop k) m.cells = true /\ m.dst ∉ ls.getD (k + m.cells.length) []) /\ j = k + m.cells.length then ls.getD j [] ++ [m.dst] else ls.getD j [] := by
  unfold stepL
  by_cases h : begB (C.drop k) m.cells = true /\ m.dst ∉ ls.getD (k + m.cells.length) []
  · rw [if_pos h, zq92 _ _ _ _ (by have := zq4b hk h.1; omega)]
    by_cases hj : j = k + m.cells.length
    · rw [if_pos hj, if_pos ⟨h, hj⟩, hj]
    · rw [if_neg hj, if_neg (fun e => hj e.2)]
  · rw [if_neg h, if_neg (fun e => h e.1)]
theorem stepL_ok {C : List Int} {k : Nat} {ls : List (List PlZ)} (h : LsOk C.length ls) (hk : k <= C.length) {m : MvZ} (hm : PlOk m.dst) : LsOk C.length (stepL C k ls m) := by
  refine ⟨by rw [stepL_len]; exact h.1, fun j => ?_⟩
  rw [zq81 h.1 hk]
  split
  · rename_i hc
    rw [hc.2]
    refine ⟨?_, fun q hq => ?_⟩
    · rw [List.nodup_append]
      refine ⟨(h.2 _).1, by simp, fun a ha b hb e => ?_⟩
      rw [List.mem_singleton] at hb
      subst hb
      subst e
      exact hc.1.2 ha
    · rcases List.mem_append.1 hq with hq | hq
      · exact (h.2 _).2 q hq
      · rw [List.mem_singleton] at hq
        subst hq
        exact hm
  · exact h.2 j
theorem stepL_mono {C : List Int} {k : Nat} {ls : List (List PlZ)} (hl : ls.length = C.length + 1) (hk : k <= C.length) (m : MvZ) {j : Nat} {q : PlZ} (hq : q ∈ ls.getD j []) : q ∈ (stepL C k ls m).getD j [] := by
  rw [zq81 hl hk]
  split
  · exact List.mem_append_left _ hq
  · exact hq
theorem stepL_has {C : List Int} {k : Nat} {ls : List (List PlZ)} (hl : ls.length = C.length + 1) (hk : k <= C.length) {m : MvZ} (hm : begB (C.drop k) m.cells = true) : m.dst ∈ (stepL C k ls m).getD (k + m.cells.length) [] := by
  rw [zq81 hl hk]
  split
  · simp
  · rename_i h
    refine Decidable.byContradiction fun hc => h ⟨⟨hm, hc⟩, rfl⟩
theorem stepL_same {C : List Int} {k : Nat} {ls : List (List PlZ)} (hl : ls.length = C.length + 1) (hk : k <= C.length) {m : MvZ} (hm : 1 <= m.cells.length) {j : Nat} (hj : j <= k) : (stepL C k ls m).getD j [] = ls.getD j [] := by
  rw [zq81 hl hk, if_neg (fun e => by omega)]
/-! ### moves -/
theorem right_cells1 {r : RuleZ} (h : zqf r = true) : 1 <= r.cells.length := by
  unfold zqf zqc at h
  simp only [Bool.and_eq_true, decide_eq_true_eq] at h
  omega
theorem valid_rule1 {T : TabZ} (hv : zq8 T = 0) {k : Nat} (hk : k < 2) : ∀ r ∈ T.at k, 1 <= r.cells.length := by
  intro r hr
  have h := zq7b hv
  rcases (by omega : k = 0 \/ k = 1) with rfl | rfl
  · exact right_cells1 (List.all_eq_true.1 h.1 r hr)
  · exact right_cells1 (List.all_eq_true.1 h.2 r hr)
theorem zq2f {T : TabZ} {p : PlZ} (hv : zq8 T = 0) (hp : PlOk p) {m : MvZ} (hm : m ∈ zqa T p) : PlOk m.dst /\ 1 <= m.cells.length /\ m.cells.length <= 12 /\ m.text.size <= 8 := by
  have hvi := zq54 hv
  unfold zqa at hm
  rcases List.mem_append.1 hm with hm | hm
  · obtain ⟨r, hr, hm⟩ := List.mem_flatMap.1 hm
    obtain ⟨k, hk, hk2⟩ := zqd1 (T := T) hp.1
    rw [hk2] at hr
    have hs := zq6d hv hk r hr
    have hc := valid_rule1 hv hk r hr
    unfold zq18 at hm
    split at hm
    · split at hm
      · cases hm
      · have hh : (headZ T p).length <= 4 := by unfold headZ; split <;> (try simp only [List.length_nil]) <;> omega
        have hn : needZ r.wh <= 2 := by unfold needZ; split; omega; split <;> omega
        simp only [List.mem_cons, List.not_mem_nil, or_false] at hm
        rcases hm with rfl | rfl
        · exact ⟨⟨hp.1, hn⟩, by simp only [List.length_append]; omega, by simp only [List.length_append]; omega, hs.2.1⟩
        · exact ⟨⟨hp.1, hn⟩, by simp only [List.length_append]; omega, by simp only [List.length_append]; omega, hs.2.1⟩
    · split at hm
      · cases hm
      · simp only [List.mem_singleton] at hm
        subst hm
        exact ⟨⟨hp.1, Nat.zero_le _⟩, hc, by simp only; omega, hs.2.1⟩
  · split at hm
    · cases hm
    · rcases List.mem_append.1 hm with hm | hm
      · unfold zq26 at hm
        obtain ⟨d, _, rfl⟩ := List.mem_map.1 hm
        refine ⟨⟨hp.1, Nat.zero_le _⟩, by simp [digMv], ?_, (by decide : 1 <= 8)⟩
        simp only [digMv, List.length_append, List.length_singleton]
        split <;> (try simp only [List.length_nil]) <;> omega
      · unfold swMv at hm
        split at hm
        · cases hm
        · simp only [List.mem_singleton] at hm
          subst hm
          refine ⟨⟨?_, Nat.zero_le _⟩, hvi.2.2.2.2.1, by simp only; omega, by simp⟩
          rcases hp.1 with h | h
          · right; simp only [h]; rfl
          · left; simp only [h]; rfl
/-! ### all that is reached -/
def zqa3 (T : TabZ) (C : List Int) (k : Nat) (ls : List (List PlZ)) (p : PlZ) : List (List PlZ) := (zqa T p).foldl (stepL C k) ls
def rowL (T : TabZ) (C : List Int) (k : Nat) (ls : List (List PlZ)) (ps : List PlZ) : List (List PlZ) := ps.foldl (zqa3 T C k) ls
def zq1f (T : TabZ) (C : List Int) : Nat -> List (List PlZ)
  | 0 => [pl0] :: List.replicate C.length []
  | k + 1 => rowL T C k (zq1f T C k) ((zq1f T C k).getD k [])
def liveZ (T : TabZ) (C : List Int) : List (List PlZ) := zq1f T C (C.length + 1)
structure Grown (C : List Int) (k : Nat) (ls ls' : List (List PlZ)) : Prop where
  ok : LsOk C.length ls'
  mono : ∀ j q, q ∈ ls.getD j [] -> q ∈ ls'.getD j []
  same : ∀ j, j <= k -> ls'.getD j [] = ls.getD j []
theorem Grown.refl {C : List Int} {k : Nat} {ls : List (List PlZ)} (h : LsOk C.length ls) : Grown C k ls ls := ⟨h, fun _ _ h => h, fun _ _ => rfl⟩
theorem Grown.trans {C : List Int} {k : Nat} {a b c : List (List PlZ)} (h : Grown C k a b) (g : Grown C k b c) : Grown C k a c :=
  ⟨g.ok, fun j q hq => g.mono j q (h.mono j q hq), fun j hj => (g.same j hj).trans (h.same j hj)⟩
theorem steps_grown {C : List Int} {k : Nat} (hk : k <= C.length) : ∀ (ms : List MvZ) (ls : List (List PlZ)), (∀ m ∈ ms, PlOk m.dst /\ 1 <= m.cells.length) -> LsOk C.length ls ->
    Grown C k ls (ms.foldl (stepL C k) ls) /\ ∀ m ∈ ms, begB (C.drop k) m.cells = true -> m.dst ∈ (ms.foldl (stepL C k) ls).getD (k + m.cells.length) []
  | [], _, _, h => ⟨Grown.refl h, fun _ hm => by cases hm⟩
  | m :: ms, ls, hm, h => by
    have h0 := hm m (by simp)
    have h1 : Grown C k ls (stepL C k ls m) := ⟨stepL_ok h hk h0.1, fun j q hq => stepL_mono h.1 hk m hq, fun j hj => stepL_same h.1 hk h0.2 hj⟩
    have h2 := steps_grown hk ms (stepL C k ls m) (fun x hx => hm x (by simp [hx])) h1.ok
    refine ⟨h1.trans h2.1, fun x hx hb => ?_⟩
    rcases List.mem_cons.1 hx with rfl | hx
    · exact h2.1.mono _ _ (stepL_has h.1 hk hb)
    · exact h2.2 x hx hb
theorem moves_grown {T : TabZ} {C : List Int} {k : Nat} (hv : zq8 T = 0) (hk : k <= C.length) {p : PlZ} (hp : PlOk p) {ls : List (List PlZ)} (h : LsOk C.length ls) :
    Grown C k ls (zqa3 T C k ls p) /\ ∀ m ∈ zqa T p, begB (C.drop k) m.cells = true -> m.dst ∈ (zqa3 T C k ls p).getD (k + m.cells.length) [] :=
  steps_grown hk (zqa T p) ls (fun _ hm => ⟨(zq2f hv hp hm).1, (zq2f hv hp hm).2.1⟩) h
theorem zq98 {T : TabZ} {C : List Int} {k : Nat} (hv : zq8 T = 0) (hk : k <= C.length) : ∀ (ps : List PlZ) (ls : List (List PlZ)), (∀ p ∈ ps, PlOk p) -> LsOk C.length ls ->
    Grown C k ls (rowL T C k ls ps) /\ ∀ p ∈ ps, ∀ m ∈ zqa T p, begB (C.drop k) m.cells = true -> m.dst ∈ (rowL T C k ls ps).getD (k + m.cells.length) []
  | [], _, _, h => ⟨Grown.refl h, fun _ hp => by cases hp⟩
  | p :: ps, ls, hp, h => by
    have h1 := moves_grown hv hk (hp p (by simp)) h
    have h2 := zq98 hv hk ps (zqa3 T C k ls p) (fun x hx => hp x (by simp [hx])) h1.1.ok
    refine ⟨h1.1.trans h2.1, fun x hx m hm hb => ?_⟩
    rcases List.mem_cons.1 hx with rfl | hx
    · exact h2.1.mono _ _ (h1.2 m hm hb)
    · exact h2.2 x hx m hm hb
theorem zq5b (n j : Nat) : ([pl0] :: List.replicate n ([] : List PlZ)).getD j [] = if j = 0 then [pl0] else [] := by
  cases j with
  | zero => rfl
  | succ j =>
    rw [if_neg (by omega), List.getD_eq_getElem?_getD]
    simp only [List.getElem?_cons_succ, List.getElem?_replicate]
    split <;> rfl
theorem zq88 {T : TabZ} {C : List Int} (hv : zq8 T = 0) : ∀ k, k <= C.length + 1 -> LsOk C.length (zq1f T C k)
  | 0, _ => ⟨by simp [zq1f], fun j => by
      unfold zq1f
      rw [zq5b]
      split
      · exact ⟨by simp, fun q hq => by simp at hq; subst hq; exact zqa2⟩
      · exact ⟨by simp, fun q hq => by cases hq⟩⟩
  | k + 1, hk => by
    have h := zq88 hv (T := T) (C := C) k (by omega)
    exact (zq98 hv (by omega) _ _ (h.2 k).2 h).1.ok
theorem live_to_grown {T : TabZ} {C : List Int} (hv : zq8 T = 0) {k : Nat} (hk : k <= C.length) : Grown C k (zq1f T C k) (zq1f T C (k + 1)) /\ ∀ p ∈ (zq1f T C k).getD k [], ∀ m ∈ zqa T p, begB (C.drop k) m.cells = true -> m.dst ∈ (zq1f T C (k + 1)).getD (k + m.cells.length) [] := by
  have h := zq88 hv (T := T) (C := C) k (by omega)
  exact zq98 hv hk _ _ (h.2 k).2 h
theorem zq6e {T : TabZ} {C : List Int} (hv : zq8 T = 0) : ∀ (d k : Nat), k + d <= C.length + 1 -> (∀ j q, q ∈ (zq1f T C k).getD j [] -> q ∈ (zq1f T C (k + d)).getD j []) /\ ∀ j, j < k + 1 -> d = 0 \/ j <= k -> (zq1f T C (k + d)).getD j [] = (zq1f T C k).getD j []
  | 0, _, _ => ⟨fun _ _ h => h, fun _ _ _ => rfl⟩
  | d + 1, k, hk => by
    have h1 := zq6e hv (T := T) (C := C) d k (by omega)
    have h2 := (live_to_grown hv (T := T) (k := k + d) (C := C) (by omega)).1
    refine ⟨fun j q hq => h2.mono j q (h1.1 j q hq), fun j hj _ => ?_⟩
    rw [show k + (d + 1) = k + d + 1 from rfl, h2.same j (by omega)]
    exact h1.2 j hj (.inr (by omega))
theorem live_closed {T : TabZ} {C : List Int} (hv : zq8 T = 0) {k : Nat} (hk : k <= C.length) {p : PlZ} (hp : p ∈ (liveZ T C).getD k []) {m : MvZ} (hm : m ∈ zqa T p) (hb : begB (C.drop k) m.cells = true) : m.dst ∈ (liveZ T C).getD (k + m.cells.length) [] := by
  have h1 := zq6e hv (T := T) (C := C) (C.length + 1 - k) k (by omega)
  rw [show k + (C.length + 1 - k) = C.length + 1 from by omega] at h1
  have hp2 : p ∈ (zq1f T C k).getD k [] := by
    rw [<- h1.2 k (by omega) (.inr (Nat.le_refl _))]
    exact hp
  have h2 := zq6e hv (T := T) (C := C) (C.length - k) (k + 1) (by omega)
  rw [show k + 1 + (C.length - k) = C.length + 1 from by omega] at h2
  exact h2.1 _ _ ((live_to_grown hv hk).2 p hp2 m hm hb)
theorem zqe0 {T : TabZ} {C : List Int} (hv : zq8 T = 0) : LsOk C.length (liveZ T C) := zq88 hv _ (Nat.le_refl _)
theorem live_first {T : TabZ} {C : List Int} (hv : zq8 T = 0) : pl0 ∈ (liveZ T C).getD 0 [] := by
  have h1 := zq6e hv (T := T) (C := C) (C.length + 1) 0 (by omega)
  rw [Nat.zero_add] at h1
  refine h1.1 0 pl0 ?_
  unfold zq1f
  rw [zq5b]
  simp
inductive Reach (T : TabZ) (C : List Int) : Nat -> PlZ -> Prop
  | start : Reach T C 0 pl0
  | move {k : Nat} {p : PlZ} {m : MvZ} : Reach T C k p -> k <= C.length -> m ∈ zqa T p -> begB (C.drop k) m.cells = true -> Reach T C (k + m.cells.length) m.dst
theorem steps_reach {T : TabZ} {C : List Int} {k : Nat} (hk : k <= C.length) {p : PlZ} (hp : Reach T C k p) : ∀ (ms : List MvZ) (ls : List (List PlZ)), (∀ m ∈ ms, m ∈ zqa T p) -> ls.length = C.length + 1 -> (∀ j q, q ∈ ls.getD j [] -> Reach T C j q) ->
    ∀ j q, q ∈ (ms.foldl (stepL C k) ls).getD j [] -> Reach T C j q
  | [], _, _, _, h, j, q, hq => h j q hq
  | m :: ms, ls, hm, hl, h, j, q, hq => by
    refine steps_reach hk hp ms (stepL C k ls m) (fun x hx => hm x (by simp [hx])) (by rw [stepL_len]; exact hl) (fun j q hq => ?_) j q hq
    rw [zq81 hl hk] at hq
    split at hq
    · rename_i hc
      rcases List.mem_append.1 hq with hq | hq
      · exact h j q hq
      · rw [List.mem_singleton] at hq
        subst hq
        rw [hc.2]
        exact .move hp hk (hm m (by simp)) hc.1.1
    · exact h j q hq
theorem row_reach {T : TabZ} {C : List Int} {k : Nat} (hv : zq8 T = 0) (hk : k <= C.length) : ∀ (ps : List PlZ) (ls : List (List PlZ)), (∀ p ∈ ps, PlOk p /\ Reach T C k p) -> LsOk C.length ls -> (∀ j q, q ∈ ls.getD j [] -> Reach T C j q) -> ∀ j q, q ∈ (rowL T C k ls ps).getD j [] -> Reach T C j q
  | [], _, _, _, h, j, q, hq => h j q hq
  | p :: ps, ls, hp, hl, h, j, q, hq =>
    row_reach hv hk ps (zqa3 T C k ls p) (fun x hx => hp x (by simp [hx])) (moves_grown hv hk (hp p (by simp)).1 hl).1.ok (steps_reach hk (hp p (by simp)).2 _ _ (fun _ h => h) hl.1 h) j q hq
theorem live_to_reach {T : TabZ} {C : List Int} (hv : zq8 T = 0) : ∀ k, k <= C.length + 1 -> ∀ j q, q ∈ (zq1f T C k).getD j [] -> Reach T C j q
  | 0, _, j, q, hq => by
    unfold zq1f at hq
    rw [zq5b] at hq
    split at hq
    · rename_i hj
      rw [List.mem_singleton] at hq
      subst hq hj
      exact .start
    · cases hq
  | k + 1, hk, j, q, hq => by
    have h := zq88 hv (T := T) (C := C) k (by omega)
    have h2 := live_to_reach hv (T := T) (C := C) k (by omega)
    exact row_reach hv (by omega) _ _ (fun p hp => ⟨(h.2 k).2 p hp, h2 k p hp⟩) h h2 j q hq
theorem live_reach {T : TabZ} {C : List Int} (hv : zq8 T = 0) {k : Nat} {p : PlZ} (hk : k <= C.length) : p ∈ (liveZ T C).getD k [] ↔ Reach T C k p := by
  constructor
  · exact live_to_reach hv _ (Nat.le_refl _) k p
  · intro h
    induction h with
    | start => exact live_first hv
    | move h1 h2 h3 h4 ih => exact live_closed hv h2 (ih h2) h3 h4
end Go.Proofs.YtcfjepcflanjbaaGreat
/- Plain: the first texts that have the cells from each place on. -/
namespace Go.Proofs.YtcfjepcflanjbaaGreat
open Go.RowKit Go.Lab Go.Shelf
abbrev TxG := Nat -> PlZ -> List (List Sym)
def rawM (C : List Int) (k : Nat) (p : PlZ) (g : TxG) (m : MvZ) : List (List Sym) :=
  if begB (C.drop k) m.cells = true then (g (k + m.cells.length) m.dst).map (zq1b p.st.lang m.text m.cap ++ ·) else []
def raw0 (n k : Nat) (p : PlZ) : List (List Sym) := if k = n /\ p.sw = false /\ p.need ≠ 2 then [[]] else []
def rawZ (T : TabZ) (C : List Int) (k : Nat) (p : PlZ) (g : TxG) : List (List Sym) := raw0 C.length k p ++ (zqa T p).flatMap (rawM C k p g)
def txtF (T : TabZ) (C : List Int) (most : Nat) : Nat -> TxG
  | 0, _, _ => []
  | f + 1, k, p => (rawZ T C k p (txtF T C most f)).foldl (putZ most) []
def txtZ (T : TabZ) (C : List Int) (most : Nat) : TxG := fun k p => txtF T C most (C.length + 1 - k) k p
theorem flatMap_congr' {α β : Type} {f g : α -> List β} : ∀ {l : List α}, (∀ x ∈ l, f x = g x) -> l.flatMap f = l.flatMap g
  | [], _ => rfl
  | a :: l, h => by
    rw [List.flatMap_cons, List.flatMap_cons, h a (by simp), flatMap_congr' (fun x hx => h x (by simp [hx]))]
theorem rawZ_congr {T : TabZ} {C : List Int} {k : Nat} {p : PlZ} {g h : TxG} (e : ∀ m ∈ zqa T p, begB (C.drop k) m.cells = true -> g (k + m.cells.length) m.dst = h (k + m.cells.length) m.dst) : rawZ T C k p g = rawZ T C k p h := by
  unfold rawZ
  congr 1
  apply flatMap_congr'
  intro m hm
  unfold rawM
  split
  · rename_i hb
    rw [e m hm hb]
  · rfl
theorem txtF_fuel {T : TabZ} {C : List Int} {most : Nat} (hv : zq8 T = 0) : ∀ (f g k : Nat) (p : PlZ), PlOk p -> k <= C.length -> C.length + 1 - k <= f -> C.length + 1 - k <= g -> txtF T C most f k p = txtF T C most g k p
  | 0, _, _, _, _, hk, hf, _ => by omega
  | _ + 1, 0, _, _, _, hk, _, hg => by omega
  | f + 1, g + 1, k, p, hp, hk, hf, hg => by
    show (rawZ T C k p (txtF T C most f)).foldl (putZ most) [] = (rawZ T C k p (txtF T C most g)).foldl (putZ most) []
    rw [rawZ_congr (fun m hm hb => ?_)]
    have hmm := zq2f hv hp hm
    have hbb := zq4b hk hb
    exact txtF_fuel hv f g _ _ hmm.1 hbb (by omega) (by omega)
theorem txtZ_eq {T : TabZ} {C : List Int} {most : Nat} (hv : zq8 T = 0) {k : Nat} {p : PlZ} (hp : PlOk p) (hk : k <= C.length) : txtZ T C most k p = (rawZ T C k p (txtZ T C most)).foldl (putZ most) [] := by
  show txtF T C most (C.length + 1 - k) k p = _
  rw [show C.length + 1 - k = (C.length - k) + 1 from by omega]
  show (rawZ T C k p (txtF T C most (C.length - k))).foldl (putZ most) [] = _
  rw [rawZ_congr (fun m hm hb => ?_)]
  have hmm := zq2f hv hp hm
  have hbb := zq4b hk hb
  exact txtF_fuel hv _ _ _ _ hmm.1 hbb (by omega) (by omega)
theorem firstN_nil (most : Nat) : FirstN most (fun _ => False) [] := by
  have h := firstN_comp (most := most) (L := []) (P := fun _ => False) List.Pairwise.nil (fun x => by simp)
  simpa [compZ] using h
theorem zq9a {most : Nat} : ∀ (L : List (List Sym)) (P : List Sym -> Prop) (M : List (List Sym)), FirstN most P M -> FirstN most (fun x => P x \/ x ∈ L) (L.foldl (putZ most) M)
  | [], P, M, h => h.congr (fun x => by simp)
  | t :: L, P, M, h => by
    have h1 := zq9a L _ _ (firstN_put h t)
    refine h1.congr (fun x => ?_)
    simp only [List.mem_cons]
    constructor
    · rintro ((h | h) | h)
      · exact .inl h
      · exact .inr (.inl h)
      · exact .inr (.inr h)
    · rintro (h | h | h)
      · exact .inl (.inl h)
      · exact .inl (.inr h)
      · exact .inr h
theorem txtZ_first {T : TabZ} {C : List Int} {most : Nat} (hv : zq8 T = 0) {k : Nat} {p : PlZ} (hp : PlOk p) (hk : k <= C.length) : FirstN most (fun x => x ∈ rawZ T C k p (txtZ T C most)) (txtZ T C most k p) := by
  rw [txtZ_eq hv hp hk]
  exact (zq9a _ _ _ (firstN_nil most)).congr (fun x => by simp)
theorem txtZ_sorted {T : TabZ} {C : List Int} {most : Nat} (hv : zq8 T = 0) {k : Nat} {p : PlZ} (hp : PlOk p) (hk : k <= C.length) {L : List (List Sym)} (hL : L.Perm (rawZ T C k p (txtZ T C most))) (hs : L.Pairwise LeT) : (compZ L).take most = txtZ T C most k p :=
  (firstN_comp (most := most) hs (fun x => (hL.mem_iff (a := x)).symm)).one (txtZ_first hv hp hk)
/-! ### bounds -/
theorem zqaf {T : TabZ} {C : List Int} {most : Nat} (hv : zq8 T = 0) {k : Nat} {p : PlZ} (hp : PlOk p) (hk : k <= C.length) : (txtZ T C most k p).length <= most := (txtZ_first hv hp hk).len
theorem txtF_size {T : TabZ} {C : List Int} {most : Nat} (hv : zq8 T = 0) : ∀ (f k : Nat) (p : PlZ), PlOk p -> k <= C.length -> C.length + 1 - k <= f -> ∀ x ∈ txtF T C most f k p, x.length <= 8 * (C.length - k)
  | 0, _, _, _, hk, hf, _, _ => by omega
  | f + 1, k, p, hp, hk, hf, x, hx => by
    have h1 : FirstN most (fun x => x ∈ rawZ T C k p (txtF T C most f)) (txtF T C most (f + 1) k p) := (zq9a _ _ _ (firstN_nil most)).congr (fun x => by simp)
    have h2 : x ∈ rawZ T C k p (txtF T C most f) := h1.sub x hx
    unfold rawZ at h2
    rcases List.mem_append.1 h2 with h2 | h2
    · unfold raw0 at h2
      split at h2
      · simp only [List.mem_cons, List.not_mem_nil, or_false] at h2
        rw [h2]
        exact Nat.zero_le _
      · cases h2
    · obtain ⟨m, hm, h2⟩ := List.mem_flatMap.1 h2
      unfold rawM at h2
      split at h2
      · rename_i hb
        obtain ⟨y, hy, rfl⟩ := List.mem_map.1 h2
        have hmm := zq2f hv hp hm
        have hbb := zq4b hk hb
        have := txtF_size hv f _ _ hmm.1 hbb (by omega) y hy
        rw [List.length_append, zq49]
        omega
      · cases h2
theorem txtZ_size {T : TabZ} {C : List Int} {most : Nat} (hv : zq8 T = 0) {k : Nat} {p : PlZ} (hp : PlOk p) (hk : k <= C.length) : ∀ x ∈ txtZ T C most k p, x.length <= 8 * (C.length - k) := txtF_size hv _ _ _ hp hk (Nat.le_refl _)
end Go.Proofs.YtcfjepcflanjbaaGreat
