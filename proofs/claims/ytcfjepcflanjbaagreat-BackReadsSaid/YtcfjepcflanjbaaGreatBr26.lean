/- The code's live: its taker (the closure), the rows of places in memory. -/
import Derived.Test.YtcfjepcflanjbaaGreatBr02
import Derived.Test.YtcfjepcflanjbaaGreatBr22
import Derived.Test.YtcfjepcflanjbaaGreatBr25
namespace Go.Proofs.YtcfjepcflanjbaaGreat
open Go.RowKit Go.Lab Go.Shelf
set_option maxRecDepth 100000
theorem slPls : SlT Tryz.prog 131 133 (.agg #[.int .i64 0, .int .i64 0, .bool false, .bool false, .int .i64 0, .bool false]) 6 40 := ⟨by kernel_rfl, by kernel_rfl, rfl, by decide⟩
def plsC (k : Nat) (l : List PlZ) : List Value := l.flatMap (zq2e k)
theorem plsC_snoc (k : Nat) (l : List PlZ) (p : PlZ) : plsC k (l ++ [p]) = plsC k l ++ zq2e k p := by
  unfold plsC
  rw [List.flatMap_append]
  simp
theorem zqd2 (k : Nat) : ∀ (l : List PlZ) (i j : Nat) (h : i < l.length), j < 6 -> (plsC k l)[i * 6 + j]? = (zq2e k l[i])[j]?
  | [], _, _, h, _ => by simp at h
  | a :: l, 0, j, _, hj => by
    unfold plsC
    rw [List.flatMap_cons, Nat.zero_mul, Nat.zero_add, List.getElem?_append_left (by simp [zq2e]; omega)]
    rfl
  | a :: l, i + 1, j, h, hj => by
    have := zqd2 k l i j (by simpa using h) hj
    unfold plsC at this ⊢
    rw [List.flatMap_cons, List.getElem?_append_right (by simp [zq2e]; omega)]
    have e : (i + 1) * 6 + j - (zq2e k a).length = i * 6 + j := by simp [zq2e]; omega
    rw [e]
    simpa using this
structure LvK where
  A : Nat
  Rb : Nat
  Mx : Nat
  Lx : Nat
  Mm : Nat
  Lb : Nat
  R : Nat
def LvB (K : LvK) (vs : List Value) (b : Nat) : Prop := b = K.A \/ b = K.Rb \/ b = K.Mx \/ b = K.Lx \/ b = K.Mm \/ b = K.Lb \/ ∃ v ∈ vs, v.ownBlock = some b
structure LvC (K : LvK) (w0 : World) (n k : Nat) (ls : List (List PlZ)) (vs : List Value) (W : World) : Prop where
  low : Below w0.heap.size w0 W
  lo : ∀ b, LvB K vs b -> w0.heap.size <= b
  box : W.heap[K.A]? = some (.cells #[.int .i64 (k : Nat)] 3)
  rbox : W.heap[K.Rb]? = some (.cells #[.pointer (some ⟨K.R, 0, none⟩)] 117)
  mbox : W.heap[K.Mx]? = some (.cells #[.map (some K.Mm)] 178)
  lbox : W.heap[K.Lx]? = some (.cells #[.slice (some ⟨K.Lb, 0, none⟩) (n + 1) (n + 1)] 129)
  mp : ∃ (N : Nat) (g : Nat × PlZ -> Value), MapIs Tryz.prog 133 zq4d zq34 (.bool false) W K.Mm N g /\ N <= (n + 1) * 48 /\ N = (ls.map List.length).sum /\ ∀ x, g x = .bool (decide (x.2 ∈ ls.getD x.1 []))
  row : W.heap[K.Lb]? = some (.cells vs.toArray 131)
  len : vs.length = n + 1
  lsok : LsOk n ls
  rows : ∀ i (h : i < vs.length), W.ownsRow w0.heap.size 133 6 vs[i] (ls.getD i []).length (plsC i (ls.getD i []))
  apart : ∀ i j (h : i < vs.length) (h' : j < vs.length), i ≠ j -> ∀ g, vs[i].ownBlock = some g -> vs[j].ownBlock ≠ some g
theorem LvC.block {K : LvK} {w0 : World} {n k : Nat} {ls : List (List PlZ)} {vs : List Value} {W W' : World} (h : LvC K w0 n k ls vs W) (hb : ∀ b, LvB K vs b -> b < W.heap.size -> W'.heap[b]? = W.heap[b]?) (hl : Below w0.heap.size w0 W') : LvC K w0 n k ls vs W' := by
  have e : ∀ b (o : Obj), LvB K vs b -> W.heap[b]? = some o -> W'.heap[b]? = some o := fun b o h1 h2 => (hb b h1 (lt_of_block h2)).trans h2
  obtain ⟨N, g, h1, h2⟩ := h.mp
  refine ⟨hl, h.lo, e _ _ (.inl rfl) h.box, e _ _ (.inr (.inl rfl)) h.rbox, e _ _ (.inr (.inr (.inl rfl))) h.mbox, e _ _ (.inr (.inr (.inr (.inl rfl)))) h.lbox, ⟨N, g, h1.block (hb _ (.inr (.inr (.inr (.inr (.inl rfl))))) h1.lt), h2⟩, e _ _ (.inr (.inr (.inr (.inr (.inr (.inl rfl)))))) h.row, h.len, h.lsok, fun i hi => ?_, h.apart⟩
  have ho := h.rows i hi
  refine ⟨ho.1, ?_⟩
  rcases ho.2 with h2 | ⟨g, cap, cur, hv, hg, hh, r⟩
  · exact .inl h2
  · exact .inr ⟨g, cap, cur, hv, hg, e _ _ (.inr (.inr (.inr (.inr (.inr (.inr ⟨_, List.getElem_mem hi, by rw [hv]; rfl⟩)))))) hh, r⟩
theorem LvC.below {K : LvK} {w0 : World} {n k : Nat} {ls : List (List PlZ)} {vs : List Value} {W W' : World} (h : LvC K w0 n k ls vs W) (hb : Below W.heap.size W W') : LvC K w0 n k ls vs W' :=
  h.block (fun b _ hl => hb.block b hl) (h.low.trans (hb.mono h.low.size))
theorem LvC.lt {K : LvK} {w0 : World} {n k : Nat} {ls : List (List PlZ)} {vs : List Value} {W : World} (h : LvC K w0 n k ls vs W) : ∀ b, LvB K vs b -> b < W.heap.size := by
  obtain ⟨N, g, h1, _⟩ := h.mp
  rintro b (rfl | rfl | rfl | rfl | rfl | rfl | ⟨v, hv, e⟩)
  · exact lt_of_block h.box
  · exact lt_of_block h.rbox
  · exact lt_of_block h.mbox
  · exact lt_of_block h.lbox
  · exact h1.lt
  · exact lt_of_block h.row
  · obtain ⟨i, hi, rfl⟩ := List.getElem_of_mem hv
    exact ((h.rows i hi).lt b e).2
def LvJ (K : LvK) (w0 : World) (C : List Int) (k : Nat) (ls0 : List (List PlZ)) : Hold := fun d B W => ∃ vs, LvC K w0 C.length k (d.foldl (stepL C k) ls0) vs W /\ ∀ b, B b ↔ LvB K vs b
theorem sum_le : ∀ (ls : List (List PlZ)), (∀ l ∈ ls, l.length <= 48) -> (ls.map List.length).sum <= ls.length * 48
  | [], _ => by simp
  | a :: l, h => by
    have h1 := h a (by simp)
    have h2 := sum_le l (fun x hx => h x (by simp [hx]))
    simp only [List.map_cons, List.sum_cons, List.length_cons]
    omega
theorem sum_set : ∀ (ls : List (List PlZ)) (j : Nat) (q : PlZ), j < ls.length -> ((ls.set j (ls.getD j [] ++ [q])).map List.length).sum = (ls.map List.length).sum + 1
  | [], _, _, h => by simp at h
  | a :: l, 0, q, _ => by simp [List.getD]; omega
  | a :: l, j + 1, q, h => by
    have h2 := sum_set l j q (by simpa using h)
    simp only [List.set_cons_succ, List.map_cons, List.sum_cons, List.getD_cons_succ]
    omega
theorem lsok_sum {n : Nat} {ls : List (List PlZ)} (h : LsOk n ls) : (ls.map List.length).sum <= (n + 1) * 48 := by
  have := sum_le ls (fun l hl => by
    obtain ⟨j, hj, rfl⟩ := List.getElem_of_mem hl
    have h1 := h.2 j
    rw [List.getD_eq_getElem?_getD, List.getElem?_eq_getElem hj] at h1
    exact zq61 h1.1 h1.2)
  rw [h.1] at this
  exact this
theorem lsok_add {n : Nat} {ls : List (List PlZ)} (h : LsOk n ls) {j : Nat} (hj : j < n + 1) {q : PlZ} (hq : PlOk q) (hn : q ∉ ls.getD j []) : LsOk n (ls.set j (ls.getD j [] ++ [q])) := by
  refine ⟨by rw [List.length_set]; exact h.1, fun i => ?_⟩
  rw [zq92 _ _ _ _ (by rw [h.1]; exact hj)]
  split
  · refine ⟨?_, fun x hx => ?_⟩
    · rw [List.nodup_append]
      refine ⟨(h.2 _).1, by simp, fun a ha b hb e => ?_⟩
      rw [List.mem_singleton] at hb
      subst hb
      subst e
      exact hn ha
    · rcases List.mem_append.1 hx with hx | hx
      · exact (h.2 _).2 x hx
      · rw [List.mem_singleton] at hx
        subst hx
        exact hq
  · exact h.2 i
theorem LvC.add {K : LvK} {w0 : World} {n k : Nat} {ls : List (List PlZ)} {vs : List Value} {X2 w5 X6 w7 : World} (h : LvC K w0 n k ls vs X2) {j : Nat} (hj : j < vs.length) {q : PlZ} (hq : PlOk q) (hnew : q ∉ ls.getD j [])
    {N : Nat} {g : Nat × PlZ -> Value} (hN : N = (ls.map List.length).sum) (hg : ∀ x, g x = .bool (decide (x.2 ∈ ls.getD x.1 []))) (hm : MapIs Tryz.prog 133 zq4d zq34 (.bool false) w5 K.Mm (N + 1) (updK g (j, q) (.bool true)))
    (h5 : X2.grownBy w5 (some K.Mm)) (h6 : Below w5.heap.size w5 X6) {v' : Value} (h7 : X6.grownBy w7 vs[j].ownBlock) (ho : w7.ownsRow w0.heap.size 133 6 v' ((ls.getD j []).length + 1) (plsC j (ls.getD j []) ++ zq2e j q)) (hown : v'.ownBlock = vs[j].ownBlock \/ v'.ownBlock = some X6.heap.size) :
    LvC K w0 n k (ls.set j (ls.getD j [] ++ [q])) (vs.set j v') (w7.setCell ⟨K.Lb, j, none⟩ v') /\ Turned (LvB K vs) X2 (w7.setCell ⟨K.Lb, j, none⟩ v') /\ ∀ b, b < X2.heap.size -> LvB K (vs.set j v') b -> LvB K vs b := by
  have hjn : j < n + 1 := by rw [<- h.len]; exact hj
  have hs5 : X2.heap.size <= X6.heap.size := Nat.le_trans h5.size h6.size
  have keep : ∀ b, b < X2.heap.size -> b ≠ K.Mm -> vs[j].ownBlock ≠ some b -> b ≠ K.Lb -> (w7.setCell ⟨K.Lb, j, none⟩ v').heap[b]? = X2.heap[b]? := fun b hb h1 h2 h3 => by
    rw [Below.heap_setCell w7 ⟨K.Lb, j, none⟩ v' b h3]
    rw [h7.block b (Nat.lt_of_lt_of_le hb hs5) (fun e => h2 e.symm), h6.block b (Nat.lt_of_lt_of_le hb h5.size), h5.block b hb (fun e => h1 (by injection e))]
  obtain ⟨N0, g0, hm0, _⟩ := h.mp
  have hMc : ∀ cur t fz, X2.heap[K.Mm]? ≠ some (.cells cur t fz) := hm0.no_cells
  have hrow := h.rows j hj
  have hne : ∀ b cur t, X2.heap[b]? = some (.cells cur t) -> t ≠ 133 -> vs[j].ownBlock ≠ some b := fun b cur t hb ht e => by
    obtain ⟨cur2, h2⟩ := zq1d hrow e
    rw [hb] at h2
    injection h2 with h2
    injection h2 with _ h3 _
    exact ht h3
  have kb : ∀ b cur t, X2.heap[b]? = some (.cells cur t) -> t ≠ 133 -> b ≠ K.Lb -> (w7.setCell ⟨K.Lb, j, none⟩ v').heap[b]? = some (.cells cur t) := fun b cur t hb ht hbl => by
    rw [keep b (lt_of_block hb) (fun e => hMc _ _ _ (e ▸ hb)) (hne b cur t hb ht) hbl]
    exact hb
  have hL0 := h.row
  have nl : ∀ b cur t, X2.heap[b]? = some (.cells cur t) -> t ≠ 131 -> b ≠ K.Lb := fun b cur t hb ht e => by
    subst e
    rw [hL0] at hb
    injection hb with h2
    injection h2 with _ h3 _
    exact ht h3.symm
  have hL7 : w7.heap[K.Lb]? = some (.cells vs.toArray 131) := by
    have hlb := lt_of_block hL0
    rw [h7.block _ (Nat.lt_of_lt_of_le hlb hs5) (fun e => hne _ _ _ hL0 (by decide) e.symm), h6.block _ (Nat.lt_of_lt_of_le hlb h5.size), h5.block _ hlb (fun e => hMc _ _ _ ((by injection e : K.Lb = K.Mm) ▸ hL0))]
    exact hL0
  have hLlo : w0.heap.size <= K.Lb := h.lo _ (.inr (.inr (.inr (.inr (.inr (.inl rfl))))))
  have hMlo : w0.heap.size <= K.Mm := h.lo _ (.inr (.inr (.inr (.inr (.inl rfl)))))
  have hLB : ∀ b, b < X2.heap.size -> LvB K (vs.set j v') b -> LvB K vs b := by
    rintro b hb (e | e | e | e | e | e | ⟨v, hv, e⟩)
    · exact .inl e
    · exact .inr (.inl e)
    · exact .inr (.inr (.inl e))
    · exact .inr (.inr (.inr (.inl e)))
    · exact .inr (.inr (.inr (.inr (.inl e))))
    · exact .inr (.inr (.inr (.inr (.inr (.inl e)))))
    · rcases List.mem_or_eq_of_mem_set hv with hv | rfl
      · exact .inr (.inr (.inr (.inr (.inr (.inr ⟨v, hv, e⟩)))))
      · rcases hown with h1 | h1
        · exact .inr (.inr (.inr (.inr (.inr (.inr ⟨vs[j], List.getElem_mem hj, by rw [<- h1]; exact e⟩)))))
        · rw [e] at h1
          injection h1 with h1
          omega
  have hMown : vs[j].ownBlock ≠ some K.Mm := fun e => by
    obtain ⟨cur2, h2⟩ := zq1d hrow e
    exact hMc _ _ _ h2
  have hT : Turned (LvB K vs) X2 (w7.setCell ⟨K.Lb, j, none⟩ v') := by
    refine ⟨h7.os.trans (h6.os.trans h5.os), h7.tape.trans (h6.tape.trans h5.tape), h7.output.trans (h6.output.trans h5.output), ?_, fun b hb hB => ?_⟩
    · have := h7.size
      simp only [World.setCell, Array.size_modify]
      omega
    · exact keep b hb (fun e => hB (.inr (.inr (.inr (.inr (.inl e)))))) (fun e => hB (.inr (.inr (.inr (.inr (.inr (.inr ⟨_, List.getElem_mem hj, e⟩))))))) (fun e => hB (.inr (.inr (.inr (.inr (.inr (.inl e)))))))
  have hS : Turned (fun b => b = K.Lb) w7 (w7.setCell ⟨K.Lb, j, none⟩ v') := (Turned.refl _ _).setCell ⟨K.Lb, j, none⟩ v' (.inr rfl)
  have hvL : v'.ownBlock ≠ some K.Lb := fun e => by
    obtain ⟨cur2, h2⟩ := zq1d ho e
    rw [hL7] at h2
    injection h2 with h2
    injection h2 with _ h3 _
    exact absurd h3 (by decide)
  have hlt : ∀ i (hi : i < vs.length) b, vs[i].ownBlock = some b -> b < X2.heap.size := fun i hi b e => ((h.rows i hi).lt b e).2
  refine ⟨⟨zq19 h.low (Nat.le_refl _) hT (fun b hB => h.lo b hB), fun b hB => ?_, kb _ _ _ h.box (by decide) (nl _ _ _ h.box (by decide)), kb _ _ _ h.rbox (by decide) (nl _ _ _ h.rbox (by decide)), kb _ _ _ h.mbox (by decide) (nl _ _ _ h.mbox (by decide)), kb _ _ _ h.lbox (by decide) (nl _ _ _ h.lbox (by decide)), ?_, ?_, by rw [List.length_set]; exact h.len, lsok_add h.lsok hjn hq hnew, ?_, ?_⟩, hT, hLB⟩
  · rcases Nat.lt_or_ge b X2.heap.size with hb | hb
    · exact h.lo b (hLB b hb hB)
    · exact Nat.le_trans h.low.size hb
  · have hsum := sum_set ls j q (by rw [h.lsok.1]; exact hjn)
    have hok := lsok_add h.lsok hjn hq hnew
    refine ⟨N + 1, updK g (j, q) (.bool true), hm.block ?_, by rw [hN, <- hsum]; exact lsok_sum hok, by rw [hN, hsum], fun x => ?_⟩
    · have hMl := hm.lt
      have hM0 := hm0.lt
      rw [Below.heap_setCell w7 ⟨K.Lb, j, none⟩ v' K.Mm (fun e => hMc _ _ _ ((show K.Mm = K.Lb from e).symm ▸ hL0)), h7.block _ (Nat.lt_of_lt_of_le hMl h6.size) (fun e => hMown e.symm), h6.block _ hMl]
    · obtain ⟨i, y⟩ := x
      show updK g (j, q) (.bool true) (i, y) = .bool (decide (y ∈ (ls.set j (ls.getD j [] ++ [q])).getD i []))
      rw [zq92 _ _ _ _ (by rw [h.lsok.1]; exact hjn)]
      by_cases he : (i, y) = (j, q)
      · rw [he, zq6c]
        injection he with h1 h2
        subst h1 h2
        simp
      · rw [zq50 _ _ he, hg]
        simp only
        by_cases hij : i = j
        · subst hij
          rw [if_pos rfl]
          have hyq : y ≠ q := fun e => he (by rw [e])
          simp [hyq]
        · rw [if_neg hij]
  · rw [zq12 hL7 j v']
    simp
  · intro i hi
    rw [List.length_set] at hi
    by_cases hij : i = j
    · subst hij
      rw [List.getElem_set_self, zq92 _ _ _ _ (by rw [h.lsok.1]; exact hjn), if_pos rfl, List.length_append, List.length_singleton, plsC_snoc]
      exact zq32 ho hS (fun g hg e => hvL (e ▸ hg))
    · rw [List.getElem_set_ne (fun e => hij e.symm), zq92 _ _ _ _ (by rw [h.lsok.1]; exact hjn), if_neg hij]
      have hr := h.rows i hi
      refine ⟨hr.1, ?_⟩
      rcases hr.2 with h2 | ⟨g1, cap, cur, hv, hg1, hh, r⟩
      · exact .inl h2
      · have hgi : vs[i].ownBlock = some g1 := by rw [hv]; rfl
        refine .inr ⟨g1, cap, cur, hv, hg1, ?_, r⟩
        rw [keep g1 (lt_of_block hh) (fun e => hMc _ _ _ (e ▸ hh)) (h.apart i j hi hj hij g1 hgi) (fun e => by
          subst e
          rw [hL0] at hh
          injection hh with h2
          injection h2 with _ h3 _
          exact absurd h3 (by decide))]
        exact hh
  · intro i i' hi0 hi0' hne2 g1 hg1
    have hi : i < vs.length := by rw [List.length_set] at hi0; exact hi0
    have hi' : i' < vs.length := by rw [List.length_set] at hi0'; exact hi0'
    by_cases h1 : i = j
    · subst h1
      rw [List.getElem_set_self] at hg1
      rw [List.getElem_set_ne hne2]
      intro e
      rcases hown with h2 | h2
      · exact h.apart i i' hj hi' hne2 g1 (by rw [<- h2]; exact hg1) e
      · rw [hg1] at h2
        injection h2 with h2
        have := hlt i' hi' g1 e
        omega
    · rw [List.getElem_set_ne (fun e => h1 e.symm)] at hg1
      by_cases h3 : i' = j
      · subst h3
        rw [List.getElem_set_self]
        intro e
        rcases hown with h2 | h2
        · exact h.apart i i' hi hj h1 g1 hg1 (by rw [<- h2]; exact e)
        · rw [e] at h2
          injection h2 with h2
          have := hlt i hi g1 hg1
          omega
      · rw [List.getElem_set_ne (fun e => h3 e.symm)]
        exact h.apart i i' hi hi' hne2 g1 hg1
theorem frame45 (t : Array Value) (ds : List Deferred) (h : t.size = 45) : ({ tmps := t, defers := ds } : Act) = { tmps := #[slot t 0, slot t 1, slot t 2, slot t 3, slot t 4, slot t 5, slot t 6, slot t 7, slot t 8, slot t 9, slot t 10, slot t 11, slot t 12, slot t 13, slot t 14, slot t 15, slot t 16, slot t 17, slot t 18, slot t 19, slot t 20, slot t 21, slot t 22, slot t 23, slot t 24, slot t 25, slot t 26, slot t 27, slot t 28, slot t 29, slot t 30, slot t 31, slot t 32, slot t 33, slot t 34, slot t 35, slot t 36, slot t 37, slot t 38, slot t 39, slot t 40, slot t 41, slot t 42, slot t 43, slot t 44], defers := ds } :=
  (congrArg (fun x => ({ tmps := x, defers := ds } : Act)) (zq1e h)).trans (by kernel_rfl)
def LvM (K : LvK) (w0 W0 : World) (n k : Nat) (ls : List (List PlZ)) (vs : List Value) (P : Nat) (po : Obj) (v0 : Value) (tb : Bool) : Act -> World -> Prop := fun a W => a.tmps.size = 45 /\ a.defers = [] /\ slot a.tmps 0 = v0 /\ slot a.tmps 4 = .pointer (some ⟨K.A, 0, none⟩) /\ slot a.tmps 5 = .pointer (some ⟨K.Rb, 0, none⟩) /\ slot a.tmps 6 = .pointer (some ⟨K.Mx, 0, none⟩) /\ slot a.tmps 7 = .pointer (some ⟨K.Lx, 0, none⟩) /\ slot a.tmps 11 = .pointer (some ⟨P, 0, none⟩) /\ slot a.tmps 30 = .bool tb /\ LvC K w0 n k ls vs W /\ W.heap[P]? = some po /\ Below W0.heap.size W0 W
set_option maxHeartbeats 4000000 in
theorem live1_any (V : TabV) (cv : Value) (C : List Int) (w0 : World) (KK : LvK) (hR : w0.heap[KK.R]? = some (RdBox V cv)) (hC : BysAt w0 cv C) (hCl : C.length <= 8192) (k : Nat) (hk : k <= C.length) (ls : List (List PlZ)) (vs : List Value) (W : World) (hL : LvC KK w0 C.length k ls vs W) (u : Value) (m : MvZ) (hu : BysAt W u m.cells) (hm : PlOk m.dst) (hml : m.cells.length <= 12) :
    Calls Tryz.prog 119 #[u, .string m.text, .bool m.cap, .agg #[.int .i64 0, .int .i64 m.dst.st.lang, .bool m.dst.st.num, .bool m.dst.st.word, .int .i64 (m.dst.need : Nat), .bool m.dst.sw], .pointer (some ⟨KK.A, 0, none⟩), .pointer (some ⟨KK.Rb, 0, none⟩), .pointer (some ⟨KK.Mx, 0, none⟩), .pointer (some ⟨KK.Lx, 0, none⟩)] W
      fun e W' => e = .returned (.tuple #[]) /\ ∃ vs', LvC KK w0 C.length k (stepL C k ls m) vs' W' /\ Turned (LvB KK vs) W W' /\ ∀ b, b < W.heap.size -> LvB KK vs' b -> LvB KK vs b := by
  obtain ⟨ua, uc, rfl, huc, hum⟩ := hu.1.form
  obtain ⟨ca, cc, rfl, hcc, hcm⟩ := hC.1.form
  unfold maxLen at hum hcm
  have HL := hidep hL
  have HU := hidep hu
  have HR := hidep hR
  have HC := hidep hC
  have HM := hidep hm
  obtain ⟨n, hn⟩ : ∃ n, n = C.length := ⟨_, rfl⟩
  have HN := hidep hn
  obtain ⟨c, hc⟩ : ∃ c, c = m.cells.length := ⟨_, rfl⟩
  have HCN := hidep hc
  rw [<- hn] at hCl hk hcc
  rw [<- hc] at huc hml ⊢
  have hwc : IntKind.i64.wrap ((k : Int) + (c : Int)) = (k : Int) + (c : Int) := IntWalk.i64_in _ (by omega)
  have hstep : stepL C k ls m = if begB (C.drop k) m.cells = true /\ m.dst ∉ ls.getD (k + c) [] then ls.set (k + c) (ls.getD (k + c) [] ++ [m.dst]) else ls := by rw [hc]; rfl
  obtain ⟨RES, hRES⟩ : ∃ R, R = stepL C k ls m := ⟨_, rfl⟩
  rw [<- hRES] at hstep ⊢
  have HRES := hidep hRES
  have HST := hidep hstep
  clear hL hu hR hC hm hn hc hstep hRES
  obtain ⟨mc, mt, mcap, md⟩ := m
  simp only at HU HM HCN HST ⊢
  go_enter Tryz.func119, Tryz.ntmps119
  go_upto_region 1 with (fail)
  obtain ⟨P, hP⟩ : ∃ B, B = W.heap.size := ⟨_, rfl⟩
  refine zq9 (fun X => Below W.heap.size W X /\ X.heap[P]? = some (PlBox 0 md)) ⟨(Below.refl _ _).alloc (Nat.le_refl _) _, by rw [hP]; exact heap_alloc_new _ _⟩ ?_
  rintro X0 ⟨hb0, hp0⟩
  rw [<- hP]
  have hPW : W.heap.size <= P := by omega
  have hl0 := HL.out.below hb0
  have hA : X0.cell? ⟨KK.A, 0, none⟩ = some (.int .i64 (k : Nat)) := zq5 hl0.box
  have hfz : X0.frozen? ⟨P, 0, none⟩ = false := zq31 hp0 0
  have hc0 : X0.cell? ⟨P, 0, none⟩ = some (.int .i64 0) := (pl6 hp0).1
  have HB0 := hidep (And.intro hb0 hp0)
  have HPW := hidep (And.intro hPW hP)
  clear hb0 hp0 hl0 hP hPW
  go_upto_region 2 with (fail)
  refine zq9 (fun X => Below W.heap.size W X /\ X.heap[P]? = some (PlBox ((k : Int) + (c : Int)) md)) ⟨HB0.out.1.setCell (by exact HPW.out.1) _, zq12 HB0.out.2 0 _⟩ ?_
  rintro X1 ⟨hb1, hp1⟩
  have HB1 := hidep (And.intro hb1 hp1)
  clear hA hfz hc0 hb1 hp1 HB0
  obtain ⟨bb, hbb⟩ : ∃ x, x = begB (C.drop k) mc := ⟨_, rfl⟩
  obtain ⟨mem, hmem⟩ : ∃ x, x = decide (md ∈ ls.getD (k + c) []) := ⟨_, rfl⟩
  have HBB := hidep (And.intro hbb hmem)
  have HSEE := hidep (fun (Z : World) (hZ : Below X1.heap.size X1 Z) => by
    have h0 := HL.out.below (HB1.out.1.trans (hZ.mono HB1.out.1.size))
    have h7 := (rd8 (zq0 h0.low HR.out)).2.2.2.2.2.2.2
    exact And.intro (zq5 h0.box) (And.intro (zq5 h0.rbox) (And.intro (zq5 h0.mbox) (And.intro h7 (pl6 (zq0 hZ HB1.out.2))))))
  have HLK := hidep (fun (Z : World) (hZ : Below X1.heap.size X1 Z) => show (Instr.lookup 178 (.map (some KK.Mm)) (.agg #[.int .i64 ((k : Int) + (c : Int)), .int .i64 md.st.lang, .bool md.st.num, .bool md.st.word, .int .i64 (md.need : Nat), .bool md.sw]) false).run Tryz.prog Z = .ok (.bool mem) Z from by
    have h0 := HL.out.below (HB1.out.1.trans (hZ.mono HB1.out.1.size))
    obtain ⟨N, g, h1, _, _, h2⟩ := h0.mp
    have h3 := h1.lookup zqdb (x := (k + c, md)) ⟨by show k + c <= 1000000; omega, HM.out.2, HM.out.1⟩
    rw [h2] at h3
    unfold zq4f zq2e at h3
    simp only [Int.natCast_add] at h3
    rw [hmem]
    exact h3)
  have hdr := HC.out.drop (m := k) (by rw [<- HN.out]; exact hk)
  rw [<- HN.out] at hdr
  have HBG := hidep (fun (Z : World) (hZ : Below X1.heap.size X1 Z) vv (hvv : Value.slice (if cc = k then ca else ca.map (·.add k)) (n - k) (cc - k) = vv) => hvv ▸ zq9e _ _ (C.drop k) mc Z (hdr.below ((HL.out.below (HB1.out.1.trans (hZ.mono HB1.out.1.size))).low)) (HU.out.below (HB1.out.1.trans (hZ.mono HB1.out.1.size))))
  rw [<- HCN.out, <- hbb] at HBG
  rw [<- HN.out] at HSEE
  have hk1 : (k : Int) <= (n : Int) := by omega
  have hk2 : (k : Int) <= (cc : Int) := by omega
  have hk3 : (n : Int) <= (cc : Int) := by omega
  clear hdr hbb hmem
  refine zq17 (LvM KK w0 X1 n k ls vs P (PlBox ((k : Int) + (c : Int)) md) (.slice ua c uc) (bb && !mem)) ?r2 ?_
  case r2 =>
    intro K' hMK
    cases bb with
    | false =>
      by_cases hvk : cc = k
      case pos =>
        have HVK := hidep hvk
        refine wp_region_noPanic (wp_region_held_drew (S := (fun Z => Below X1.heap.size X1 Z)) (by kernel_rfl) ?hSz0 (fun hHeld => ?hRz0))
        case hSz0 => ((try dsimp only); (exact (Below.refl _ _).drew))
        refine tkB 0 rfl (.inl ⟨by kernel_rfl, fun w hSw => by (obtain ⟨hA, hRb, hMx, h7, p0, p1, p2, p3, p4, p5⟩ := HSEE.out _ hSw); go_simp; first | done | with_reducible rfl⟩) ?_
        refine tkC 1 rfl ?_
        refine tkC 2 rfl ?_
        refine tkB 3 rfl (.inl ⟨by kernel_rfl, fun w hSw => by (obtain ⟨hA, hRb, hMx, h7, p0, p1, p2, p3, p4, p5⟩ := HSEE.out _ hSw); go_simp; first | done | with_reducible rfl⟩) ?_
        refine tkB 4 rfl (.inl ⟨by kernel_rfl, fun w hSw => by (obtain ⟨hA, hRb, hMx, h7, p0, p1, p2, p3, p4, p5⟩ := HSEE.out _ hSw); go_simp; first | done | with_reducible rfl⟩) ?_
        refine tkC 5 rfl ?_
        refine tkC 6 rfl ?_
        refine wpAnyH_ready (rs := [7]) (by kernel_rfl) (by simp) (AllReadyH.cons rfl (fun K hK => ?hcz1) AllReadyH.nil)
        go_simp
        (go_at_call 53; refine (HBG.out _ hHeld _ (by simp [HVK.out])).mono ?_; rintro e' w9 ⟨rfl, hb9⟩; have hk9 := hHeld.trans (hb9.mono hHeld.size); (try dsimp only))
        refine hK.out _ _ (by (try dsimp only); (exact hk9)) ?_
        clear hHeld hK; intro hHeld
        refine tkC 8 rfl ?_
        refine tkB 9 rfl (.inr ⟨by kernel_rfl, rfl⟩) ?_
        refine tkB 10 rfl (.inr ⟨by kernel_rfl, rfl⟩) ?_
        refine wpAnyH_ready (rs := [11]) (by kernel_rfl) (by simp) (AllReadyH.cons rfl (fun K hK => ?hcz2) AllReadyH.nil)
        first | rw [if_neg (ne_true_of_eq_false (by kernel_rfl))] | rw [if_neg (by decide)]
        refine hK.out _ _ (by (try dsimp only); (exact hk9)) ?_
        clear hHeld hK; intro hHeld
        refine tkB 12 rfl (.inr ⟨by kernel_rfl, rfl⟩) ?_
        refine tkC 13 rfl ?_
        refine wpAnyH_done (by kernel_rfl) ?_ _
        clear hHeld
        refine NoPanic.normal ?_
        dsimp only [Exit.then]
        (refine hMK _ _ ⟨?_, ?_, ?_, ?_, ?_, ?_, ?_, ?_, ?_, by rw [HN.out]; exact HL.out.below (HB1.out.1.trans (hk9.mono HB1.out.1.size)), zq0 hk9 HB1.out.2, hk9⟩ <;> kernel_rfl)
      case neg =>
        have HVK := hidep hvk
        refine wp_region_noPanic (wp_region_held_drew (S := (fun Z => Below X1.heap.size X1 Z)) (by kernel_rfl) ?hSz3 (fun hHeld => ?hRz3))
        case hSz3 => ((try dsimp only); (exact (Below.refl _ _).drew))
        refine tkB 0 rfl (.inl ⟨by kernel_rfl, fun w hSw => by (obtain ⟨hA, hRb, hMx, h7, p0, p1, p2, p3, p4, p5⟩ := HSEE.out _ hSw); go_simp; first | done | with_reducible rfl⟩) ?_
        refine tkC 1 rfl ?_
        refine tkC 2 rfl ?_
        refine tkB 3 rfl (.inl ⟨by kernel_rfl, fun w hSw => by (obtain ⟨hA, hRb, hMx, h7, p0, p1, p2, p3, p4, p5⟩ := HSEE.out _ hSw); go_simp; first | done | with_reducible rfl⟩) ?_
        refine tkB 4 rfl (.inl ⟨by kernel_rfl, fun w hSw => by (obtain ⟨hA, hRb, hMx, h7, p0, p1, p2, p3, p4, p5⟩ := HSEE.out _ hSw); go_simp; first | done | with_reducible rfl⟩) ?_
        refine tkC 5 rfl ?_
        refine tkC 6 rfl ?_
        refine wpAnyH_ready (rs := [7]) (by kernel_rfl) (by simp) (AllReadyH.cons rfl (fun K hK => ?hcz4) AllReadyH.nil)
        go_simp
        (go_at_call 53; refine (HBG.out _ hHeld _ (by simp [HVK.out])).mono ?_; rintro e' w9 ⟨rfl, hb9⟩; have hk9 := hHeld.trans (hb9.mono hHeld.size); (try dsimp only))
        refine hK.out _ _ (by (try dsimp only); (exact hk9)) ?_
        clear hHeld hK; intro hHeld
        refine tkC 8 rfl ?_
        refine tkB 9 rfl (.inr ⟨by kernel_rfl, rfl⟩) ?_
        refine tkB 10 rfl (.inr ⟨by kernel_rfl, rfl⟩) ?_
        refine wpAnyH_ready (rs := [11]) (by kernel_rfl) (by simp) (AllReadyH.cons rfl (fun K hK => ?hcz5) AllReadyH.nil)
        first | rw [if_neg (ne_true_of_eq_false (by kernel_rfl))] | rw [if_neg (by decide)]
        refine hK.out _ _ (by (try dsimp only); (exact hk9)) ?_
        clear hHeld hK; intro hHeld
        refine tkB 12 rfl (.inr ⟨by kernel_rfl, rfl⟩) ?_
        refine tkC 13 rfl ?_
        refine wpAnyH_done (by kernel_rfl) ?_ _
        clear hHeld
        refine NoPanic.normal ?_
        dsimp only [Exit.then]
        (refine hMK _ _ ⟨?_, ?_, ?_, ?_, ?_, ?_, ?_, ?_, ?_, by rw [HN.out]; exact HL.out.below (HB1.out.1.trans (hk9.mono HB1.out.1.size)), zq0 hk9 HB1.out.2, hk9⟩ <;> kernel_rfl)
    | true =>
      by_cases hvk : cc = k
      case pos =>
        have HVK := hidep hvk
        refine wp_region_noPanic (wp_region_held_drew (S := (fun Z => Below X1.heap.size X1 Z)) (by kernel_rfl) ?hSz6 (fun hHeld => ?hRz6))
        case hSz6 => ((try dsimp only); (exact (Below.refl _ _).drew))
        refine tkB 0 rfl (.inl ⟨by kernel_rfl, fun w hSw => by (obtain ⟨hA, hRb, hMx, h7, p0, p1, p2, p3, p4, p5⟩ := HSEE.out _ hSw); go_simp; first | done | with_reducible rfl⟩) ?_
        refine tkC 1 rfl ?_
        refine tkC 2 rfl ?_
        refine tkB 3 rfl (.inl ⟨by kernel_rfl, fun w hSw => by (obtain ⟨hA, hRb, hMx, h7, p0, p1, p2, p3, p4, p5⟩ := HSEE.out _ hSw); go_simp; first | done | with_reducible rfl⟩) ?_
        refine tkB 4 rfl (.inl ⟨by kernel_rfl, fun w hSw => by (obtain ⟨hA, hRb, hMx, h7, p0, p1, p2, p3, p4, p5⟩ := HSEE.out _ hSw); go_simp; first | done | with_reducible rfl⟩) ?_
        refine tkC 5 rfl ?_
        refine tkC 6 rfl ?_
        refine wpAnyH_ready (rs := [7]) (by kernel_rfl) (by simp) (AllReadyH.cons rfl (fun K hK => ?hcz7) AllReadyH.nil)
        go_simp
        (go_at_call 53; refine (HBG.out _ hHeld _ (by simp [HVK.out])).mono ?_; rintro e' w9 ⟨rfl, hb9⟩; have hk9 := hHeld.trans (hb9.mono hHeld.size); (try dsimp only))
        refine hK.out _ _ (by (try dsimp only); (exact hk9)) ?_
        clear hHeld hK; intro hHeld
        refine tkC 8 rfl ?_
        refine tkB 9 rfl (.inl ⟨by kernel_rfl, fun w hSw => by (obtain ⟨hA, hRb, hMx, h7, p0, p1, p2, p3, p4, p5⟩ := HSEE.out _ hSw); go_simp; first | done | with_reducible rfl⟩) ?_
        refine tkB 10 rfl (.inl ⟨by kernel_rfl, fun w hSw => by (obtain ⟨hA, hRb, hMx, h7, p0, p1, p2, p3, p4, p5⟩ := HSEE.out _ hSw); go_simp; first | done | with_reducible rfl⟩) ?_
        refine wpAnyH_ready (rs := [11]) (by kernel_rfl) (by simp) (AllReadyH.cons rfl (fun K hK => ?hcz8) AllReadyH.nil)
        (have hlk := HLK.out _ hHeld; go_simp)
        refine hK.out _ _ (by (try dsimp only); (exact hk9)) ?_
        clear hHeld hK; intro hHeld
        refine tkC 12 rfl ?_
        refine tkC 13 rfl ?_
        refine wpAnyH_done (by kernel_rfl) ?_ _
        clear hHeld
        refine NoPanic.normal ?_
        dsimp only [Exit.then]
        (refine hMK _ _ ⟨?_, ?_, ?_, ?_, ?_, ?_, ?_, ?_, ?_, by rw [HN.out]; exact HL.out.below (HB1.out.1.trans (hk9.mono HB1.out.1.size)), zq0 hk9 HB1.out.2, hk9⟩ <;> kernel_rfl)
      case neg =>
        have HVK := hidep hvk
        refine wp_region_noPanic (wp_region_held_drew (S := (fun Z => Below X1.heap.size X1 Z)) (by kernel_rfl) ?hSz9 (fun hHeld => ?hRz9))
        case hSz9 => ((try dsimp only); (exact (Below.refl _ _).drew))
        refine tkB 0 rfl (.inl ⟨by kernel_rfl, fun w hSw => by (obtain ⟨hA, hRb, hMx, h7, p0, p1, p2, p3, p4, p5⟩ := HSEE.out _ hSw); go_simp; first | done | with_reducible rfl⟩) ?_
        refine tkC 1 rfl ?_
        refine tkC 2 rfl ?_
        refine tkB 3 rfl (.inl ⟨by kernel_rfl, fun w hSw => by (obtain ⟨hA, hRb, hMx, h7, p0, p1, p2, p3, p4, p5⟩ := HSEE.out _ hSw); go_simp; first | done | with_reducible rfl⟩) ?_
        refine tkB 4 rfl (.inl ⟨by kernel_rfl, fun w hSw => by (obtain ⟨hA, hRb, hMx, h7, p0, p1, p2, p3, p4, p5⟩ := HSEE.out _ hSw); go_simp; first | done | with_reducible rfl⟩) ?_
        refine tkC 5 rfl ?_
        refine tkC 6 rfl ?_
        refine wpAnyH_ready (rs := [7]) (by kernel_rfl) (by simp) (AllReadyH.cons rfl (fun K hK => ?hcz10) AllReadyH.nil)
        go_simp
        (go_at_call 53; refine (HBG.out _ hHeld _ (by simp [HVK.out])).mono ?_; rintro e' w9 ⟨rfl, hb9⟩; have hk9 := hHeld.trans (hb9.mono hHeld.size); (try dsimp only))
        refine hK.out _ _ (by (try dsimp only); (exact hk9)) ?_
        clear hHeld hK; intro hHeld
        refine tkC 8 rfl ?_
        refine tkB 9 rfl (.inl ⟨by kernel_rfl, fun w hSw => by (obtain ⟨hA, hRb, hMx, h7, p0, p1, p2, p3, p4, p5⟩ := HSEE.out _ hSw); go_simp; first | done | with_reducible rfl⟩) ?_
        refine tkB 10 rfl (.inl ⟨by kernel_rfl, fun w hSw => by (obtain ⟨hA, hRb, hMx, h7, p0, p1, p2, p3, p4, p5⟩ := HSEE.out _ hSw); go_simp; first | done | with_reducible rfl⟩) ?_
        refine wpAnyH_ready (rs := [11]) (by kernel_rfl) (by simp) (AllReadyH.cons rfl (fun K hK => ?hcz11) AllReadyH.nil)
        (have hlk := HLK.out _ hHeld; go_simp)
        refine hK.out _ _ (by (try dsimp only); (exact hk9)) ?_
        clear hHeld hK; intro hHeld
        refine tkC 12 rfl ?_
        refine tkC 13 rfl ?_
        refine wpAnyH_done (by kernel_rfl) ?_ _
        clear hHeld
        refine NoPanic.normal ?_
        dsimp only [Exit.then]
        (refine hMK _ _ ⟨?_, ?_, ?_, ?_, ?_, ?_, ?_, ?_, ?_, by rw [HN.out]; exact HL.out.below (HB1.out.1.trans (hk9.mono HB1.out.1.size)), zq0 hk9 HB1.out.2, hk9⟩ <;> kernel_rfl)
  rintro ⟨tm1, ds⟩ X2 ⟨hts, hds, e0, e4, e5, e6, e7, e11, e30, hL2, hp2, hb2⟩
  simp only at hts hds e0 e4 e5 e6 e7 e11 e30
  subst hds
  apply_assumption
  rw [frame45 tm1 [] hts, e0, e4, e5, e6, e7, e11, e30]
  clear hts e0 e4 e5 e6 e7 e11 e30
  have HL2 := hidep hL2
  have HP2 := hidep (And.intro hp2 hb2)
  clear hL2 hp2 hb2 HSEE HLK HBG hk1 hk2 hk3 hwc
  have hTW := Turned.of_below (T := LvB KK vs) (HB1.out.1.trans (HP2.out.2.mono HB1.out.1.size))
  have HTW := hidep hTW
  clear hTW
  obtain ⟨tb, htb⟩ : ∃ x, x = (bb && !mem) := ⟨_, rfl⟩
  rw [<- htb]
  cases tb with
  | false =>
    have HE := hidep (show RES = ls from by
      rw [HST.out, if_neg (fun e => by
        rw [<- HBB.out.1] at e
        have h2 : mem = false := by rw [HBB.out.2]; exact decide_eq_false e.2
        rw [e.1, h2] at htb
        cases htb)])
    clear htb
    go_wp2
    refine bodyPost_end (results_none rfl _ _ _) rfl ?_
    exact ⟨rfl, vs, by rw [HE.out, HN.out.symm]; exact HL2.out, HTW.out, fun b _ h => h⟩
  | true =>
    have hbm : bb = true /\ mem = false := by
      cases bb <;> cases mem <;> simp at htb ⊢
    have hnew : md ∉ ls.getD (k + c) [] := of_decide_eq_false (HBB.out.2.symm.trans hbm.2)
    have hbg : begB (C.drop k) mc = true := HBB.out.1.symm.trans hbm.1
    have hkc : k + c < n + 1 := by
      have := zq4b (by rw [<- HN.out]; exact hk) hbg
      rw [<- HN.out, <- HCN.out] at this
      omega
    have HE := hidep (show RES = ls.set (k + c) (ls.getD (k + c) [] ++ [md]) from by rw [HST.out, if_pos ⟨hbg, hnew⟩])
    have HNEW := hidep hnew
    obtain ⟨N, g, hmp, hN1, hN2, hg⟩ := HL2.out.mp
    have hNm : N < maxLen := by unfold maxLen; omega
    have HG := hidep (And.intro hN2 hg)
    have HOK := hidep (show zq34 (k + c, md) from ⟨by show k + c <= 1000000; omega, HM.out.2, HM.out.1⟩)
    have hMx : X2.cell? ⟨KK.Mx, 0, none⟩ = some (.map (some KK.Mm)) := zq5 HL2.out.mbox
    obtain ⟨p0, p1, p2, p3, p4, p5⟩ := pl6 HP2.out.1
    clear htb hbm hnew hbg hg hN1 hN2
    go_upto_region 4 with (at_mapUpdate; refine wpList_mapUpdate_map rfl zqdb _ _ _ rfl hmp rfl hNm (k + c, md) HOK.out (by show _ = zq4f (k + c, md); unfold zq4f zq2e; rw [Int.natCast_add]; kernel_rfl) (.bool true) rfl ?_; intro w5 hm5 hg5)
    have HM5 := hidep (And.intro hm5 hg5)
    have hMc : ∀ cur t fz, X2.heap[KK.Mm]? ≠ some (.cells cur t fz) := hmp.no_cells
    have k5 : ∀ (b : Nat) (cur : Array Value) (t : TypeId), X2.heap[b]? = some (.cells cur t) -> w5.heap[b]? = some (.cells cur t) := fun b cur t hb => by
      rw [hg5.block b (lt_of_block hb) (fun e => hMc _ _ _ ((by injection e : b = KK.Mm) ▸ hb))]
      exact hb
    have hjl : k + c < vs.length := by rw [HL2.out.len]; exact hkc
    have hrow5 : w5.ownsRow w0.heap.size 133 6 vs[k + c] (ls.getD (k + c) []).length (plsC (k + c) (ls.getD (k + c) [])) := by
      have hr := HL2.out.rows _ hjl
      refine ⟨hr.1, ?_⟩
      rcases hr.2 with h2 | ⟨g1, cap, cur, hv, hg1, hh, r⟩
      · exact .inl h2
      · exact .inr ⟨g1, cap, cur, hv, hg1, k5 _ _ _ hh, r⟩
    have hl48 := zq61 (HL2.out.lsok.2 (k + c)).1 (HL2.out.lsok.2 (k + c)).2
    obtain ⟨ra, rc, hrv, hrc, hrm⟩ := (Rd.of_own hrow5).form
    unfold maxLen at hrm
    have h5x := k5 _ _ _ HL2.out.lbox
    have h5p := k5 _ _ _ HP2.out.1
    have h5l := k5 _ _ _ HL2.out.row
    have HK5 := hidep (And.intro h5x (And.intro h5p h5l))
    have HJL := hidep hjl
    have HRV := hidep hrv
    have HROW := hidep hrow5
    obtain ⟨rl, hrl⟩ : ∃ x, x = (ls.getD (k + c) []).length := ⟨_, rfl⟩
    have HRL := hidep hrl
    rw [<- hrl] at hl48 hrc HRV HROW
    clear hMx p0 p1 p2 p3 p4 p5 hm5 hg5 k5 hrow5 hrv h5x h5p h5l hmp hMc hrl
    have HROW2 := hidep (show w5.ownsRow w0.heap.size 133 6 (.slice ra rl rc) rl (plsC (k + c) (ls.getD (k + c) [])) from by rw [<- HRV.out]; exact HROW.out)
    have HS5 := hidep (fun (Z : World) (hZ : Z.heap[KK.Lx]? = some (.cells #[.slice (some ⟨KK.Lb, 0, none⟩) (n + 1) (n + 1)] 129) /\ Z.heap[P]? = some (PlBox ((k : Int) + (c : Int)) md) /\ Z.heap[KK.Lb]? = some (.cells vs.toArray 131)) => by
      have hl := hZ.2.2
      have hcell : Z.cell? ⟨KK.Lb, k + c, none⟩ = some (.slice ra rl rc) := by
        rw [<- HRV.out]
        simp only [World.cell?, hl]
        simp [HJL.out]
      exact And.intro (zq5 hZ.1) (And.intro hcell (pl6 hZ.2.1)))
    have hownlt : ∀ b, (Value.slice ra rl rc).ownBlock = some b -> b < W.heap.size := fun b e => HL.out.lt b (.inr (.inr (.inr (.inr (.inr (.inr ⟨vs[k + c]'hjl, List.getElem_mem hjl, (congrArg Value.ownBlock HRV.out).trans e⟩))))))
    have hne1 : (Value.slice ra rl rc).ownBlock ≠ some P := fun e => by have := hownlt _ e; have := HPW.out.1; omega
    have htyp : ∀ (b : Nat) (cur : Array Value) (t : TypeId), w5.heap[b]? = some (.cells cur t) -> t ≠ 133 -> (Value.slice ra rl rc).ownBlock ≠ some b := fun b cur t hb ht e => by
      obtain ⟨cur2, h2⟩ := zq1d HROW2.out e
      rw [hb] at h2
      injection h2 with h2
      injection h2 with _ h3 _
      exact ht h3
    have HNE := hidep (And.intro hne1 (And.intro (htyp _ _ _ HK5.out.1 (by decide)) (htyp _ _ _ HK5.out.2.2 (by decide))))
    have hlo5 : w0.heap.size <= w5.heap.size := Nat.le_trans HL2.out.low.size HM5.out.2.size
    have hpc : zq2e (k + c) md = [.int .i64 ((k : Int) + (c : Int)), .int .i64 md.st.lang, .bool md.st.num, .bool md.st.word, .int .i64 (md.need : Nat), .bool md.sw] := by unfold zq2e; rw [Int.natCast_add]
    have HPC := hidep hpc
    clear hownlt hne1 htyp hpc
    have hj0 : (0 : Int) <= (k : Int) + (c : Int) := by omega
    have hj1 : (k : Int) + (c : Int) < (n : Int) + 1 := by omega
    have hwn : ((k : Int) + (c : Int)).toNat = k + c := by omega
    refine wp_region_noPanic (zq3c (S := (fun Z => Z.heap[KK.Lx]? = some (.cells #[.slice (some ⟨KK.Lb, 0, none⟩) (n + 1) (n + 1)] 129) /\ Z.heap[P]? = some (PlBox ((k : Int) + (c : Int)) md) /\ Z.heap[KK.Lb]? = some (.cells vs.toArray 131))) [12] (by kernel_rfl) ?hSz12 (fun hHeld => ?hRz12))
    case hSz12 => ((try dsimp only); (exact HK5.out))
    refine tkD 0 rfl (.inl ⟨by kernel_rfl, fun w hSw => by (obtain ⟨hLx, hLc, p0, p1, p2, p3, p4, p5⟩ := HS5.out _ hSw); go_simp; first | done | with_reducible rfl⟩) ?_
    refine tkD 1 rfl (.inl ⟨by kernel_rfl, fun w hSw => by (obtain ⟨hLx, hLc, p0, p1, p2, p3, p4, p5⟩ := HS5.out _ hSw); go_simp; first | done | with_reducible rfl⟩) ?_
    refine tkD 2 rfl (.inl ⟨by kernel_rfl, fun w hSw => by (obtain ⟨hLx, hLc, p0, p1, p2, p3, p4, p5⟩ := HS5.out _ hSw); go_simp; first | done | with_reducible rfl⟩) ?_
    refine tkD 3 rfl (.inl ⟨by kernel_rfl, fun w hSw => by (obtain ⟨hLx, hLc, p0, p1, p2, p3, p4, p5⟩ := HS5.out _ hSw); go_simp; first | done | with_reducible rfl⟩) ?_
    refine tkD 4 rfl (.inl ⟨by kernel_rfl, fun w hSw => by (obtain ⟨hLx, hLc, p0, p1, p2, p3, p4, p5⟩ := HS5.out _ hSw); go_simp; first | done | with_reducible rfl⟩) ?_
    refine tkD 5 rfl (.inl ⟨by kernel_rfl, fun w hSw => by (obtain ⟨hLx, hLc, p0, p1, p2, p3, p4, p5⟩ := HS5.out _ hSw); go_simp; first | done | with_reducible rfl⟩) ?_
    refine tkD 6 rfl (.inl ⟨by kernel_rfl, fun w hSw => by (obtain ⟨hLx, hLc, p0, p1, p2, p3, p4, p5⟩ := HS5.out _ hSw); go_simp; first | done | with_reducible rfl⟩) ?_
    refine tkD 7 rfl (.inl ⟨by kernel_rfl, fun w hSw => by (obtain ⟨hLx, hLc, p0, p1, p2, p3, p4, p5⟩ := HS5.out _ hSw); go_simp; first | done | with_reducible rfl⟩) ?_
    refine tkD 8 rfl (.inl ⟨by kernel_rfl, fun w hSw => by (obtain ⟨hLx, hLc, p0, p1, p2, p3, p4, p5⟩ := HS5.out _ hSw); go_simp; first | done | with_reducible rfl⟩) ?_
    refine zq16 (rs := [9]) (by kernel_rfl) (by simp) (AllReadyD.cons rfl (by kernel_rfl) (fun K hK => ?hcz13) AllReadyD.nil)
    go_simp
    ((first | refine zq7 (fun X6 hBX hL => ?_) | refine zq3 (fun X6 hBX hL => ?_)); have hb6 : Below w5.heap.size w5 X6 := (by first | exact hBX | exact ((Below.refl _ _).drew).trans hBX); have hs : X6.heap[KK.Lx]? = some (.cells #[.slice (some ⟨KK.Lb, 0, none⟩) (n + 1) (n + 1)] 129) /\ X6.heap[P]? = some (PlBox ((k : Int) + (c : Int)) md) /\ X6.heap[KK.Lb]? = some (.cells vs.toArray 131) := ⟨zq0 hb6 HK5.out.1, zq0 hb6 HK5.out.2.1, zq0 hb6 HK5.out.2.2⟩; (try dsimp only))
    refine hK.out _ _ (by (try dsimp only); (exact hs)) ?_
    clear hHeld hK; intro hHeld
    refine zq16 (rs := [10]) (by kernel_rfl) (by simp) (AllReadyD.cons rfl (by kernel_rfl) (fun K hK => ?hcz14) AllReadyD.nil)
    (refine zq11 _ rfl (.tmp 40) (.tmp 42) rfl slPls w0.heap.size _ _ _ rfl (zq2 HROW2.out hb6) _ _ _ _ rfl (zq28 hL) (by intro u hu; simp at hu; rcases hu with rfl | rfl | rfl | rfl | rfl | rfl <;> rfl) (by unfold maxLen; omega) (by omega) (Nat.le_trans hlo5 hb6.size) ?_; intro v7 w7 ho7 hg7 hown7 hnl7; clear hnl7; have hs6 := hs; have hs := And.intro ((hg7.block _ (lt_of_block hs6.1) (fun e => HNE.out.2.1 e.symm)).trans hs6.1) (And.intro ((hg7.block _ (lt_of_block hs6.2.1) (fun e => HNE.out.1 e.symm)).trans hs6.2.1) ((hg7.block _ (lt_of_block hs6.2.2) (fun e => HNE.out.2.2 e.symm)).trans hs6.2.2)); have hfz : w7.frozen? ⟨KK.Lb, k + c, none⟩ = false := zq31 hs.2.2 _; have hLc7 := (HS5.out _ hs).2.1; obtain ⟨a7, c7, rfl, _, _⟩ := (Rd.of_own ho7).form; (try dsimp only))
    refine hK.out _ _ (by (try dsimp only); (exact hs)) ?_
    clear hHeld hK; intro hHeld
    refine tkD 11 rfl (.inl ⟨by kernel_rfl, fun w hSw => by (obtain ⟨hLx, hLc, p0, p1, p2, p3, p4, p5⟩ := HS5.out _ hSw); go_simp; first | done | with_reducible rfl⟩) ?_
    refine zq16 (rs := [12]) (by kernel_rfl) (by simp) (AllReadyD.last rfl (by kernel_rfl) (fun K hK => ?hcz15) AllReadyD.nil)
    go_simp
    (skip)
    refine hK.out _ _ ?_
    clear hHeld hK
    have hHeld := True.intro
    refine wpAnyH_done (by kernel_rfl) ?_ _
    clear hHeld
    refine NoPanic.normal ?_
    have ho7' : w7.ownsRow w0.heap.size 133 6 (.slice a7 (rl + 1) c7) ((ls.getD (k + c) []).length + 1) (plsC (k + c) (ls.getD (k + c) []) ++ zq2e (k + c) md) := by
      rw [HPC.out, <- HRL.out]
      exact ho7
    have hadd := HL2.out.add hjl HM.out HNEW.out HG.out.1 HG.out.2 HM5.out.1 HM5.out.2 hb6 (by rw [HRV.out]; exact hg7) ho7' (by rw [HRV.out]; exact hown7)
    have HADD := hidep hadd
    clear hadd ho7' ho7 hg7 hown7 hs hs6 hfz hLc7
    refine bodyPost_end (results_none rfl _ _ _) (by kernel_rfl) ?_
    refine ⟨rfl, _, by rw [HE.out, <- HN.out]; exact HADD.out.1, ?_, ?_⟩
    · exact HTW.out.trans (HADD.out.2.1.mono (fun _ _ h => h))
    · intro b hb hB
      exact HADD.out.2.2 b (Nat.lt_of_lt_of_le hb HTW.out.size) hB
end Go.Proofs.YtcfjepcflanjbaaGreat
