/- Contract: the code's live: the places that are reached. -/
import Derived.Test.YtcfjepcflanjbaaGreatBr02
import Derived.Test.YtcfjepcflanjbaaGreatBr26
namespace Go.Proofs.YtcfjepcflanjbaaGreat
open Go.RowKit Go.Lab Go.Shelf
set_option maxRecDepth 100000
theorem lv_taker (V : TabV) (T : TabZ) (cv : Value) (C : List Int) (w0 : World) (KK : LvK) (hv : zq8 T = 0) (hR : w0.heap[KK.R]? = some (RdBox V cv)) (hC : BysAt w0 cv C) (hCl : C.length <= 8192) (k : Nat) (hk : k <= C.length) (ls0 : List (List PlZ)) (p : PlZ) (hp : PlOk p) :
    Taker w0 T p 119 #[.pointer (some ⟨KK.A, 0, none⟩), .pointer (some ⟨KK.Rb, 0, none⟩), .pointer (some ⟨KK.Mx, 0, none⟩), .pointer (some ⟨KK.Lx, 0, none⟩)] (LvJ KK w0 C k ls0) where
  low := fun d B W h => by
    obtain ⟨vs, h1, h2⟩ := h
    exact ⟨h1.low, fun b hb => ⟨h1.lo b ((h2 b).1 hb), h1.lt b ((h2 b).1 hb)⟩⟩
  grow := fun d B N W W' h ht hN => by
    obtain ⟨vs, h1, h2⟩ := h
    exact ⟨vs, h1.block (fun b hb hl => ht.block b hl (fun e => (hN b e).1 ((h2 b).2 hb))) (zq19 h1.low (Nat.le_refl _) ht (fun b e => (hN b e).2)), h2⟩
  ent := fun _ _ => rfl
  step := fun d m rest hm B W u h hu => by
    obtain ⟨vs, h1, h2⟩ := h
    have hmem : m ∈ zqa T p := by rw [hm]; simp
    have hmm := zq2f hv hp hmem
    refine (live1_any V cv C w0 KK hR hC hCl k hk _ vs W h1 u m hu hmm.1 hmm.2.2.1).mono ?_
    rintro e W' ⟨rfl, vs', g1, g2, g3⟩
    refine ⟨rfl, LvB KK vs', ⟨vs', ?_, fun _ => Iff.rfl⟩, g2.mono (fun x _ hx => (h2 x).2 hx), fun b hb hB => (h2 b).2 (g3 b hb hB)⟩
    rw [List.foldl_append]
    exact g1
def LvP (KK : LvK) (w0 : World) (n : Nat) (ls : List (List PlZ)) (vs : List Value) (W : World) : Prop :=
  ∀ (A k : Nat) (W' : World), Below W.heap.size W W' -> W'.heap[A]? = some (.cells #[.int .i64 (k : Nat)] 3) -> w0.heap.size <= A -> LvC ⟨A, KK.Rb, KK.Mx, KK.Lx, KK.Mm, KK.Lb, KK.R⟩ w0 n k ls vs W'
theorem LvC.pre {KK : LvK} {w0 : World} {n k : Nat} {ls : List (List PlZ)} {vs : List Value} {W : World} (h : LvC KK w0 n k ls vs W) : LvP KK w0 n ls vs W := fun A k' W' hb hA hlo => by
  have h2 := h.below hb
  refine ⟨h2.low, ?_, hA, h2.rbox, h2.mbox, h2.lbox, h2.mp, h2.row, h2.len, h2.lsok, h2.rows, h2.apart⟩
  rintro b (e | e | e | e | e | e | e)
  · rw [e]; exact hlo
  · exact h.lo b (.inr (.inl e))
  · exact h.lo b (.inr (.inr (.inl e)))
  · exact h.lo b (.inr (.inr (.inr (.inl e))))
  · exact h.lo b (.inr (.inr (.inr (.inr (.inl e)))))
  · exact h.lo b (.inr (.inr (.inr (.inr (.inr (.inl e))))))
  · exact h.lo b (.inr (.inr (.inr (.inr (.inr (.inr e))))))
def PlssAt (W : World) (v : Value) (n : Nat) (ls : List (List PlZ)) : Prop :=
  ∃ (vs : List Value) (Lb : Nat), v = .slice (some ⟨Lb, 0, none⟩) (n + 1) (n + 1) /\ W.heap[Lb]? = some (.cells vs.toArray 131) /\ vs.length = n + 1 /\ ∀ i (h : i < vs.length), Rd W (· = 133) 6 vs[i] (ls.getD i []).length (plsC i (ls.getD i []))
theorem LvC.plss {KK : LvK} {w0 : World} {n k : Nat} {ls : List (List PlZ)} {vs : List Value} {W : World} (h : LvC KK w0 n k ls vs W) : PlssAt W (.slice (some ⟨KK.Lb, 0, none⟩) (n + 1) (n + 1)) n ls :=
  ⟨vs, KK.Lb, rfl, h.row, h.len, fun i hi => Rd.of_own (h.rows i hi)⟩
theorem zqc5 (t : Array Value) (ds : List Deferred) (h : t.size = 47) : ({ tmps := t, defers := ds } : Act) = { tmps := #[slot t 0, slot t 1, slot t 2, slot t 3, slot t 4, slot t 5, slot t 6, slot t 7, slot t 8, slot t 9, slot t 10, slot t 11, slot t 12, slot t 13, slot t 14, slot t 15, slot t 16, slot t 17, slot t 18, slot t 19, slot t 20, slot t 21, slot t 22, slot t 23, slot t 24, slot t 25, slot t 26, slot t 27, slot t 28, slot t 29, slot t 30, slot t 31, slot t 32, slot t 33, slot t 34, slot t 35, slot t 36, slot t 37, slot t 38, slot t 39, slot t 40, slot t 41, slot t 42, slot t 43, slot t 44, slot t 45, slot t 46], defers := ds } :=
  (congrArg (fun x => ({ tmps := x, defers := ds } : Act)) (zq1e h)).trans (by kernel_rfl)
theorem slPlss : SlT Tryz.prog 129 131 (.slice none 0 0) 1 24 := ⟨by kernel_rfl, by kernel_rfl, rfl, by decide⟩
theorem zqc8 (n : Nat) : madeCells #[Value.slice none 0 0] n = (List.replicate n (Value.slice none 0 0)).toArray := by
  apply Array.ext
  · simp [madeCells]
  · intro i h1 h2
    simp [madeCells, Nat.mod_one]
theorem LvP.init {KK : LvK} {w0 W : World} {n g : Nat} (hlow : Below w0.heap.size w0 W) (hrb : W.heap[KK.Rb]? = some (.cells #[.pointer (some ⟨KK.R, 0, none⟩)] 117)) (hmx : W.heap[KK.Mx]? = some (.cells #[.map (some KK.Mm)] 178)) (hlx : W.heap[KK.Lx]? = some (.cells #[.slice (some ⟨KK.Lb, 0, none⟩) (n + 1) (n + 1)] 129))
    (hm : MapIs Tryz.prog 133 zq4d zq34 (.bool false) W KK.Mm 1 (updK (fun _ => .bool false) (0, pl0) (.bool true))) (hrow : W.heap[KK.Lb]? = some (.cells ((.slice (some ⟨g, 0, none⟩) 1 1 : Value) :: List.replicate n (.slice none 0 0)).toArray 131)) (hg : W.heap[g]? = some (.cells (zq2e 0 pl0).toArray 133))
    (h1 : w0.heap.size <= KK.Rb) (h2 : w0.heap.size <= KK.Mx) (h3 : w0.heap.size <= KK.Lx) (h4 : w0.heap.size <= KK.Mm) (h5 : w0.heap.size <= KK.Lb) (h6 : w0.heap.size <= g) : LvP KK w0 n ([pl0] :: List.replicate n []) ((.slice (some ⟨g, 0, none⟩) 1 1 : Value) :: List.replicate n (.slice none 0 0)) W := fun A k W' hb hA hlo => by
  have hob : ∀ (i : Nat) (hi : i < ((.slice (some ⟨g, 0, none⟩) 1 1 : Value) :: List.replicate n (.slice none 0 0)).length) (b : Nat), (((.slice (some ⟨g, 0, none⟩) 1 1 : Value) :: List.replicate n (.slice none 0 0))[i]).ownBlock = some b -> i = 0 /\ b = g := fun i hi b e => by
    cases i with
    | zero => simp [Value.ownBlock] at e; exact ⟨rfl, e.symm⟩
    | succ i => simp [Value.ownBlock] at e
  refine ⟨hlow.trans (hb.mono hlow.size), ?_, hA, zq0 hb hrb, zq0 hb hmx, zq0 hb hlx, ⟨1, _, hm.below hb, by omega, by simp, fun x => ?_⟩, zq0 hb hrow, by simp, ?_, fun i hi => ?_, fun i j hi hj hne b hb1 hb2 => ?_⟩
  · rintro b (e | e | e | e | e | e | ⟨v, hv, e⟩)
    · rw [e]; exact hlo
    · rw [e]; exact h1
    · rw [e]; exact h2
    · rw [e]; exact h3
    · rw [e]; exact h4
    · rw [e]; exact h5
    · obtain ⟨i, hi, rfl⟩ := List.getElem_of_mem hv
      rw [(hob i hi b e).2]
      exact h6
  · obtain ⟨i, q⟩ := x
    show updK (fun _ => Value.bool false) (0, pl0) (.bool true) (i, q) = .bool (decide (q ∈ ([pl0] :: List.replicate n ([] : List PlZ)).getD i []))
    rw [zq5b]
    by_cases he : (i, q) = (0, pl0)
    · rw [he, zq6c]
      injection he with e1 e2
      subst e1 e2
      simp
    · rw [zq50 _ _ he]
      by_cases hi : i = 0
      · subst hi
        have : q ≠ pl0 := fun e => he (by rw [e])
        simp [this]
      · rw [if_neg hi]
        simp
  · refine ⟨by simp, fun j => ?_⟩
    rw [zq5b]
    split
    · exact ⟨by simp, fun q hq => by simp at hq; subst hq; exact zqa2⟩
    · exact ⟨by simp, fun q hq => by cases hq⟩
  · rw [zq5b]
    cases i with
    | zero =>
      have h := zqd4 (k := 6) (n := 1) (B := w0.heap.size) (zq0 hb hg) h6 rfl (by decide)
      simpa [plsC] using h
    | succ i =>
      rw [if_neg (by omega)]
      simp only [List.getElem_cons_succ, List.getElem_replicate]
      exact World.ownsRow_nil _ _ _ _
  · have e1 := (hob i hi b hb1).1
    have e2 := (hob j hj b hb2).1
    omega
def VLo (T : TabZ) (C : List Int) (R Rb Mx Mm Lb : Nat) (w : World) (n : Nat) (kv : Value) (wr : World) : Prop :=
  ∃ (k : Nat) (vs : List Value), k <= n + 1 /\ kv = .int .i64 (k : Nat) /\ LvP ⟨0, Rb, Mx, Lb + 1, Mm, Lb, R⟩ w n (zq1f T C k) vs wr /\ wr.heap[Lb + 1]? = some (.cells #[.slice (some ⟨Lb, 0, none⟩) (n + 1) (n + 1)] 129) /\ Below w.heap.size w wr /\ PlssAt wr (.slice (some ⟨Lb, 0, none⟩) (n + 1) (n + 1)) n (zq1f T C k)
def VLi (T : TabZ) (C : List Int) (KA : LvK) (w : World) (n k : Nat) (ps : List PlZ) (iv : Value) (wr : World) : Prop :=
  ∃ (i : Nat) (vs : List Value), i <= ps.length /\ iv = .int .i64 (i : Nat) /\ LvC KA w n k (rowL T C k (zq1f T C k) (ps.take i)) vs wr
set_option maxHeartbeats 4000000 in
theorem live_any (V : TabV) (T : TabZ) (cv : Value) (C : List Int) (R : Nat) (w : World) (hT : TabIn w V T) (hok : TabOk T) (hv : zq8 T = 0) (hR : w.heap[R]? = some (RdBox V cv)) (hC : BysAt w cv C) (hCl : C.length <= 8192) :
    Calls Tryz.prog 78 #[.pointer (some ⟨R, 0, none⟩)] w fun e w' => ∃ v, e = .returned v /\ PlssAt w' v C.length (liveZ T C) /\ Below w.heap.size w w' := by
  obtain ⟨ca, cc, rfl, hcc, hcm⟩ := hC.1.form
  unfold maxLen at hcm
  have HR := hidep hR
  have HC := hidep hC
  have HT := hidep (And.intro hT (And.intro hok hv))
  obtain ⟨n, hn⟩ : ∃ n, n = C.length := ⟨_, rfl⟩
  have HN := hidep hn
  have HCL := hidep hCl
  rw [<- hn] at hCl hcc
  have hmk := fun W => run_make_row' (P := Tryz.prog) 129 131 (.slice none 0 0) 24 Tryz.underlying129 slPlss.2.1 rfl .i64 .i64 (n + 1) (by omega) (by omega) W
  simp only [Int.natCast_add, Int.cast_ofNat_Int] at hmk
  have hwn : IntKind.i64.wrap ((n : Int) + 1) = (n : Int) + 1 := IntWalk.i64_in _ (by omega)
  clear hR hC hT hok hv hn
  have hmm := @run_makeMap Tryz.prog
  go_enter Tryz.func78, Tryz.ntmps78
  go_upto_region 1 with (fail)
  obtain ⟨Rb, hRb⟩ : ∃ B, B = w.heap.size := ⟨_, rfl⟩
  refine zq9 (fun X => Below w.heap.size w X /\ X.heap[Rb]? = some (.cells #[.pointer (some ⟨R, 0, none⟩)] 117)) ⟨(Below.refl _ _).alloc (Nat.le_refl _) _, by rw [hRb]; exact heap_alloc_new _ _⟩ ?_
  rintro X0 ⟨hb0, hr0⟩
  rw [<- hRb]
  have HB0 := hidep (And.intro hb0 (And.intro hr0 hRb))
  clear hb0 hr0 hRb
  go_upto_region 2 with (refine wpList_insert_map rfl zqdb _ _ _ rfl (MapIs.made X0) rfl (by decide) (0, pl0) ⟨by decide, zqa2.2, zqa2.1⟩ (by kernel_rfl) (.bool true) rfl ?_; intro w5 hm5 hg5)
  obtain ⟨Mm, hMm⟩ : ∃ B, B = X0.heap.size := ⟨_, rfl⟩
  obtain ⟨Mx, hMx⟩ : ∃ B, B = w5.heap.size := ⟨_, rfl⟩
  have hs1 := HB0.out.1.size
  have hs2 := hg5.size
  rw [World.size_alloc] at hs2
  have hb05 : Below w.heap.size w w5 := ((HB0.out.1.alloc hs1 _).grown hg5 (by rw [World.size_alloc]; omega) (fun g hg => by injection hg with hg; omega))
  refine zq9 (fun X => Below w.heap.size w X /\ X.heap[Rb]? = some (.cells #[.pointer (some ⟨R, 0, none⟩)] 117) /\ X.heap[Mx]? = some (.cells #[.map (some Mm)] 178) /\ MapIs Tryz.prog 133 zq4d zq34 (.bool false) X Mm 1 (updK (fun _ => .bool false) (0, pl0) (.bool true))) ⟨hb05.alloc hb05.size _, ?_, by rw [hMx, hMm]; exact heap_alloc_new _ _, by rw [hMm]; exact hm5.below ((Below.refl _ _).alloc (Nat.le_refl _) _)⟩ ?_
  · refine zq0 ((Below.refl _ _).alloc (Nat.le_refl _) _) ?_
    have h1 := lt_of_block HB0.out.2.1
    rw [hg5.block Rb (by rw [World.size_alloc]; omega) (fun e => by injection e with e; omega)]
    exact zq0 ((Below.refl _ _).alloc (Nat.le_refl _) _) HB0.out.2.1
  rintro X2 ⟨hb2, hr2, hx2, hm2⟩
  have HB2 := hidep (And.intro hb2 (And.intro hr2 (And.intro hx2 hm2)))
  rw [<- hMx]
  have HMM := hidep (show w.heap.size <= Mm /\ w.heap.size <= Mx from ⟨by omega, by omega⟩)
  have hrb2 := zq5 hr2
  have hr7 := (rd8 (zq0 hb2 HR.out)).2.2.2.2.2.2.2
  rw [<- HN.out] at hr7
  clear hmm hm5 hg5 hMm hMx hs1 hs2 hb05 hb2 hr2 hx2 hm2
  go_upto_region 3 with (fail)
  obtain ⟨Lb, hLb⟩ : ∃ B, B = X2.heap.size := ⟨_, rfl⟩
  refine zq9 (fun X => Below X2.heap.size X2 X /\ X.heap[Lb]? = some (.cells (List.replicate (n + 1) (Value.slice none 0 0)).toArray 131) /\ X.heap[Lb + 1]? = some (.cells #[.slice (some ⟨Lb, 0, none⟩) (n + 1) (n + 1)] 129)) ⟨((Below.refl _ _).alloc (Nat.le_refl _) _).alloc (by rw [World.size_alloc]; omega) _, by rw [hLb, <- zqc8]; exact (heap2 _ _ _).1, by rw [hLb]; exact (heap2 _ _ _).2⟩ ?_
  rintro X3 ⟨hb3, hl3, hx3⟩
  have HB3 := hidep (And.intro hb3 (And.intro hl3 hx3))
  have HLB := hidep (show w.heap.size <= Lb from by have := HB2.out.1.size; omega)
  have hlx3 := zq5 hx3
  rw [show X2.heap.size + 1 = Lb + 1 from by rw [hLb]]
  clear hmk hrb2 hr7 hb3 hl3 hx3 hLb
  have ho3 := (Below.refl X3.heap.size X3).alloc (Nat.le_refl _) (.cells #[.int .i64 0, .int .i64 0, .bool false, .bool false, .int .i64 0, .bool false] 133)
  have hl3' := zq0 ho3 HB3.out.2.1
  have hc3 : (X3.alloc (.cells #[.int .i64 0, .int .i64 0, .bool false, .bool false, .int .i64 0, .bool false] 133)).cell? ⟨Lb, 0, none⟩ = some (.slice none 0 0) := by
    simp only [World.cell?, hl3']
    simp
  have hf3 : (X3.alloc (.cells #[.int .i64 0, .int .i64 0, .bool false, .bool false, .int .i64 0, .bool false] 133)).frozen? ⟨Lb, 0, none⟩ = false := zq31 hl3' 0
  have HL3 := hidep (And.intro ho3 hl3')
  clear ho3 hl3'
  have hn0 : (0 : Int) < (n : Int) + 1 := by omega
  go_upto_region 4 with (fail)
  obtain ⟨g, hg⟩ : ∃ B, B = X3.heap.size := ⟨_, rfl⟩
  refine zq9 (fun X => LvP ⟨0, Rb, Mx, Lb + 1, Mm, Lb, R⟩ w n (zq1f T C 0) ((.slice (some ⟨g, 0, none⟩) 1 1 : Value) :: List.replicate n (.slice none 0 0)) X /\ X.heap[Lb + 1]? = some (.cells #[.slice (some ⟨Lb, 0, none⟩) (n + 1) (n + 1)] 129) /\ Below w.heap.size w X /\ PlssAt X (.slice (some ⟨Lb, 0, none⟩) (n + 1) (n + 1)) n (zq1f T C 0)) ?_ ?_
  · have hS3 : Turned (fun b => b = Lb) (X3.alloc (.cells #[.int .i64 0, .int .i64 0, .bool false, .bool false, .int .i64 0, .bool false] 133)) ((X3.alloc (.cells #[.int .i64 0, .int .i64 0, .bool false, .bool false, .int .i64 0, .bool false] 133)).setCell ⟨Lb, 0, none⟩ (.slice (some ⟨X3.heap.size, 0, none⟩) 1 1)) := (Turned.refl _ _).setCell ⟨Lb, 0, none⟩ _ (.inr rfl)
    obtain ⟨X4, hX4⟩ : ∃ X, X = ((X3.alloc (.cells #[.int .i64 0, .int .i64 0, .bool false, .bool false, .int .i64 0, .bool false] 133)).setCell ⟨Lb, 0, none⟩ (.slice (some ⟨X3.heap.size, 0, none⟩) 1 1)) := ⟨_, rfl⟩
    have hrow4 := zq12 HL3.out.2 0 (.slice (some ⟨X3.heap.size, 0, none⟩) 1 1)
    rw [<- hX4] at hS3 hrow4 ⊢
    have hb34 := HB3.out.1.trans (HL3.out.1.mono HB3.out.1.size)
    have hlow : Below w.heap.size w X4 := zq19 (HB2.out.1.trans (hb34.mono HB2.out.1.size)) (Nat.le_refl _) hS3 (fun b hb => by subst hb; exact HLB.out)
    have hLb2 : Lb < X3.heap.size := lt_of_block HB3.out.2.1
    have keep : ∀ (b : Nat) (cur : Array Value) (ty : TypeId), X3.heap[b]? = some (.cells cur ty) -> b ≠ Lb -> X4.heap[b]? = some (.cells cur ty) := fun b cur ty hb hne => hS3.cells (zq0 HL3.out.1 hb) hne
    have hne1 : Rb ≠ Lb := fun e => by
      have h1 := zq0 HB3.out.1 HB2.out.2.1
      rw [e, HB3.out.2.1] at h1
      injection h1 with h1
      injection h1 with _ h3 _
      exact absurd h3 (by decide)
    have hne2 : Mx ≠ Lb := fun e => by
      have h1 := zq0 HB3.out.1 HB2.out.2.2.1
      rw [e, HB3.out.2.1] at h1
      injection h1 with h1
      injection h1 with _ h3 _
      exact absurd h3 (by decide)
    have hne3 : Mm ≠ Lb := fun e => (HB2.out.2.2.2.below HB3.out.1).no_cells _ _ _ (e ▸ HB3.out.2.1)
    have hg4 : X4.heap[g]? = some (.cells (zq2e 0 pl0).toArray 133) := by
      rw [hg]
      exact hS3.cells (heap_alloc_new _ _) (by omega)
    have hm4 : MapIs Tryz.prog 133 zq4d zq34 (.bool false) X4 Mm 1 (updK (fun _ => .bool false) (0, pl0) (.bool true)) := ((HB2.out.2.2.2.below HB3.out.1).below HL3.out.1).turned hS3 hne3
    have hx4 := keep _ _ _ HB3.out.2.2 (by omega)
    have hr4 : X4.heap[Lb]? = some (.cells ((.slice (some ⟨g, 0, none⟩) 1 1 : Value) :: List.replicate n (.slice none 0 0)).toArray 131) := by
      rw [hrow4, hg]
      simp [List.replicate_succ]
    have hP : LvP ⟨0, Rb, Mx, Lb + 1, Mm, Lb, R⟩ w n (zq1f T C 0) ((.slice (some ⟨g, 0, none⟩) 1 1 : Value) :: List.replicate n (.slice none 0 0)) X4 := by
      have h := LvP.init (KK := ⟨0, Rb, Mx, Lb + 1, Mm, Lb, R⟩) (n := n) (g := g) hlow (keep _ _ _ (zq0 HB3.out.1 HB2.out.2.1) hne1) (keep _ _ _ (zq0 HB3.out.1 HB2.out.2.2.1) hne2) hx4 hm4 hr4 hg4 (by have := HB0.out.2.2; show w.heap.size <= Rb; omega) HMM.out.2 (by show w.heap.size <= Lb + 1; have := HLB.out; omega) HMM.out.1 HLB.out (by rw [hg]; have h1 := HB2.out.1.size; have h2 := HB3.out.1.size; omega)
      unfold zq1f
      rw [<- HN.out]
      exact h
    refine ⟨hP, hx4, hlow, ?_⟩
    refine ⟨_, Lb, rfl, hr4, by simp, fun i hi => ?_⟩
    unfold zq1f
    rw [zq5b]
    cases i with
    | zero =>
      have h := zqd4 (k := 6) (n := 1) (B := 0) hg4 (Nat.zero_le _) rfl (by decide)
      have h2 := Rd.of_own h
      simpa [plsC] using h2
    | succ i =>
      rw [if_neg (by omega)]
      simp only [List.getElem_cons_succ, List.getElem_replicate]
      exact Rd.nil _ _ _
  rintro X4 ⟨hP4, hx4, hb4, hpl4⟩
  have hlx4 := zq5 hx4
  have HP4 := hidep (And.intro hP4 (And.intro hx4 (And.intro hb4 hpl4)))
  clear hlx3 hc3 hf3 hn0 hP4 hx4 hb4 hpl4
  rw [<- hg]
  clear hg
  go_upto_region 5 with (fail)
  refine wp_loop (LoopI 47 (fun tm ds wr => (slot tm 1) = .pointer (some ⟨Rb, 0, none⟩) /\ (slot tm 3) = .pointer (some ⟨Mx, 0, none⟩) /\ (slot tm 4) = .pointer (some ⟨Lb + 1, 0, none⟩) /\ (slot tm 22) = .int .i64 ((n : Int) + 1) /\ ds = [] /\ VLo T C R Rb Mx Mm Lb w n (slot tm 23) wr)) (fun a' wr => n + 1 - natI (a'.tmps.getD 23 undef)) ?olStart ?olRound
  case' olStart => refine LoopI.mk rfl ?_
  case' olRound => (rintro ⟨t, ds⟩ wr ⟨hts, hrel⟩; dsimp only at hts hrel; rw [zqc5 t ds hts])
  case olStart => exact ⟨rfl, rfl, rfl, rfl, rfl, 0, _, Nat.zero_le _, rfl, HP4.out⟩
  clear HP4 hlx4
  obtain ⟨e1, e3, e4, e22, hds, k, vs, hk, e23, hP, hx, hb, hpl⟩ := hrel
  subst hds
  rw [e1, e3, e4, e22, e23]
  clear e1 e3 e4 e22 e23 hts
  have HP := hidep hP
  have HX := hidep (And.intro hx (And.intro hb hpl))
  by_cases hkn : k < n + 1
  · have hki : (k : Int) < (n : Int) + 1 := by omega
    have hk0 : (0 : Int) <= (k : Int) := by omega
    have hwk : IntKind.i64.wrap ((k : Int) + 1) = (k : Int) + 1 := IntWalk.i64_in _ (by omega)
    clear hP hx hb hpl
    obtain ⟨wo, hwo⟩ : ∃ wo : World, wo = wr := ⟨_, rfl⟩
    rw [<- hwo] at HP HX ⊢
    clear hwo
    go_upto_region 7 with (fail)
    obtain ⟨A, hA⟩ : ∃ B, B = wo.heap.size := ⟨_, rfl⟩
    refine zq9 (fun X => LvC ⟨A, Rb, Mx, Lb + 1, Mm, Lb, R⟩ w n k (zq1f T C k) vs X) (by
      rw [hA]
      exact HP.out _ k _ ((Below.refl _ _).alloc (Nat.le_refl _) _) (heap_alloc_new _ _) HX.out.2.1.size) ?_
    rintro X6 hX6
    rw [<- hA]
    have HX6 := hidep hX6
    have hok6 := hX6.lsok
    obtain ⟨ps, hps⟩ : ∃ x, x = (zq1f T C k).getD k [] := ⟨_, rfl⟩
    have HPS := hidep hps
    have hpok := (hok6.2 k).2
    have hp48 := zq61 (hok6.2 k).1 (hok6.2 k).2
    rw [<- hps] at hpok hp48
    have HPOK := hidep hpok
    have HOK6 := hidep hok6
    clear hA hX6 hps hpok hok6
    go_upto_region 8 with (fail)
    refine wp_loop (LoopI 47 (fun tm ds wr => (slot tm 1) = .pointer (some ⟨Rb, 0, none⟩) /\ (slot tm 3) = .pointer (some ⟨Mx, 0, none⟩) /\ (slot tm 4) = .pointer (some ⟨Lb + 1, 0, none⟩) /\ (slot tm 5) = .pointer (some ⟨A, 0, none⟩) /\ (slot tm 22) = .int .i64 ((n : Int) + 1) /\ (slot tm 23) = .int .i64 (k : Nat) /\ ds = [] /\ VLi T C ⟨A, Rb, Mx, Lb + 1, Mm, Lb, R⟩ w n k ps (slot tm 6) wr)) (fun a' wr => ps.length - natI (a'.tmps.getD 6 undef)) ?ilStart ?ilRound
    case' ilStart => refine LoopI.mk rfl ?_
    case' ilRound => (rintro ⟨t, ds⟩ wr ⟨hts, hrel⟩; dsimp only at hts hrel; rw [zqc5 t ds hts])
    case ilStart => exact ⟨rfl, rfl, rfl, rfl, rfl, rfl, rfl, 0, vs, Nat.zero_le _, rfl, HX6.out⟩
    clear HX6
    obtain ⟨e1, e3, e4, e5, e22, e23, hds, i, vs1, hi, e6, hL⟩ := hrel
    subst hds
    rw [e1, e3, e4, e5, e22, e23, e6]
    clear e1 e3 e4 e5 e22 e23 e6 hts
    obtain ⟨lsi, hlsi⟩ : ∃ x, x = rowL T C k (zq1f T C k) (ps.take i) := ⟨_, rfl⟩
    rw [<- hlsi] at hL
    have hgr := zq98 (C := C) (k := k) HT.out.2.2 (by rw [<- HN.out]; omega) (ps.take i) (zq1f T C k) (fun p hp => HPOK.out p (List.mem_of_mem_take hp)) (by rw [<- HN.out]; exact HOK6.out)
    rw [<- hlsi] at hgr
    have hsame : lsi.getD k [] = ps := by rw [hgr.1.same k (Nat.le_refl _), HPS.out]
    have HL := hidep hL
    have hkl : k < vs1.length := by rw [hL.len]; exact hkn
    have hrk := hL.rows k hkl
    rw [hsame] at hrk
    obtain ⟨ra, rc, hrv, hrc, hrm⟩ := (Rd.of_own hrk).form
    unfold maxLen at hrm
    have HLSI := hidep hlsi
    have hcell : ∀ Z, LvC ⟨A, Rb, Mx, Lb + 1, Mm, Lb, R⟩ w n k lsi vs1 Z -> Z.cell? ⟨Lb, k, none⟩ = some (.slice ra ps.length rc) := fun Z hZ => by
      have h1 := hZ.row
      rw [<- hrv]
      simp only [World.cell?, h1]
      simp [hkl]
    have HCELL := hidep hcell
    have hbox := zq5 hL.box
    have hlbox := zq5 hL.lbox
    have hck := hcell wr hL
    (try simp only at hbox hlbox)
    by_cases hip : i < ps.length
    · have hii : (i : Int) < (ps.length : Int) := by omega
      have hi0 : (0 : Int) <= (i : Int) := by omega
      have hwi : IntKind.i64.wrap ((i : Int) + 1) = (i : Int) + 1 := IntWalk.i64_in _ (by omega)
      have hpos : ∃ b off, ra = some ⟨b, off, none⟩ /\ ∀ Z, LvC ⟨A, Rb, Mx, Lb + 1, Mm, Lb, R⟩ w n k lsi vs1 Z -> ∀ j x, j < 6 -> (zq2e k ps[i])[j]? = some x -> Z.cell? ⟨b, off + i * 6 + j, none⟩ = some x := by
        have h0 := Rd.of_own hrk
        rw [hrv] at h0
        obtain ⟨b, off, e, _, _⟩ := Rd.at h0 (by omega)
        refine ⟨b, off, e, fun Z hZ j x hj hx => ?_⟩
        have h1 := Rd.of_own (hZ.rows k hkl)
        rw [hsame, hrv] at h1
        obtain ⟨b2, off2, e2, _, hc⟩ := Rd.at h1 (by omega)
        rw [e] at e2
        injection e2 with e2
        injection e2 with e3 e4
        subst e3 e4
        rw [Nat.add_assoc]
        apply hc
        rw [zqd2 k ps i j hip hj]
        exact hx
      obtain ⟨b, off, rfl, hpc⟩ := hpos
      obtain ⟨p, hp⟩ : ∃ x, x = ps[i] := ⟨_, rfl⟩
      rw [<- hp] at hpc
      have hpo : PlOk p := by rw [hp]; exact HPOK.out _ (List.getElem_mem hip)
      have htk : ps.take (i + 1) = ps.take i ++ [p] := by rw [List.take_succ_eq_append_getElem hip, hp]
      have HTK := hidep htk
      have HSEE := hidep (fun (Z : World) (hZ : LvC ⟨A, Rb, Mx, Lb + 1, Mm, Lb, R⟩ w n k lsi vs1 Z) => And.intro (zq5 hZ.rbox) (And.intro (zq5 hZ.lbox) (And.intro (zq5 hZ.box) (And.intro (HCELL.out Z hZ) (And.intro (hpc Z hZ 0 _ (by omega) rfl) (And.intro (hpc Z hZ 1 _ (by omega) rfl) (And.intro (hpc Z hZ 2 _ (by omega) rfl) (And.intro (hpc Z hZ 3 _ (by omega) rfl) (And.intro (hpc Z hZ 4 _ (by omega) rfl) (hpc Z hZ 5 _ (by omega) rfl))))))))))
      simp only [Nat.add_zero] at HSEE
      have HOF := hidep (fun (Z : World) (hZ : LvC ⟨A, Rb, Mx, Lb + 1, Mm, Lb, R⟩ w n k lsi vs1 Z) => zqba V T (.slice ca C.length cc) R w HT.out.1 HT.out.2.1 HT.out.2.2 HR.out p hpo.1 hpo.2 (k : Nat) 119 _ (LvJ ⟨A, Rb, Mx, Lb + 1, Mm, Lb, R⟩ w C k lsi) (lv_taker V T _ C w ⟨A, Rb, Mx, Lb + 1, Mm, Lb, R⟩ HT.out.2.2 HR.out HC.out HCL.out k (by rw [<- HN.out]; omega) lsi p hpo) (LvB ⟨A, Rb, Mx, Lb + 1, Mm, Lb, R⟩ vs1) Z ⟨vs1, by rw [<- HN.out]; exact hZ, fun _ => Iff.rfl⟩)
      clear hp hpc htk hL hrk hrv hlsi hcell hgr hkl hsame
      go_upto_region 10 with (fail)
      refine wp_region_noPanic (zq3c (S := (fun Z => LvC ⟨A, Rb, Mx, Lb + 1, Mm, Lb, R⟩ w n k lsi vs1 Z)) [9] (by kernel_rfl) ?hSz0 (fun hHeld => ?hRz0))
      case hSz0 => ((try dsimp only); (exact HL.out.below ((Below.refl _ _).drew)))
      refine tkD 0 rfl (.inl ⟨by kernel_rfl, fun w hSw => by (obtain ⟨hRb, hLx, hbx, hck2, p0, p1, p2, p3, p4, p5⟩ := HSEE.out _ hSw; (try simp only at hRb hLx hbx hck2 p0 p1 p2 p3 p4 p5)); go_simp; first | done | with_reducible rfl⟩) ?_
      refine tkD 1 rfl (.inl ⟨by kernel_rfl, fun w hSw => by (obtain ⟨hRb, hLx, hbx, hck2, p0, p1, p2, p3, p4, p5⟩ := HSEE.out _ hSw; (try simp only at hRb hLx hbx hck2 p0 p1 p2 p3 p4 p5)); go_simp; first | done | with_reducible rfl⟩) ?_
      refine tkD 2 rfl (.inl ⟨by kernel_rfl, fun w hSw => by (obtain ⟨hRb, hLx, hbx, hck2, p0, p1, p2, p3, p4, p5⟩ := HSEE.out _ hSw; (try simp only at hRb hLx hbx hck2 p0 p1 p2 p3 p4 p5)); go_simp; first | done | with_reducible rfl⟩) ?_
      refine tkD 3 rfl (.inl ⟨by kernel_rfl, fun w hSw => by (obtain ⟨hRb, hLx, hbx, hck2, p0, p1, p2, p3, p4, p5⟩ := HSEE.out _ hSw; (try simp only at hRb hLx hbx hck2 p0 p1 p2 p3 p4 p5)); go_simp; first | done | with_reducible rfl⟩) ?_
      refine tkD 4 rfl (.inl ⟨by kernel_rfl, fun w hSw => by (obtain ⟨hRb, hLx, hbx, hck2, p0, p1, p2, p3, p4, p5⟩ := HSEE.out _ hSw; (try simp only at hRb hLx hbx hck2 p0 p1 p2 p3 p4 p5)); go_simp; first | done | with_reducible rfl⟩) ?_
      refine tkD 5 rfl (.inl ⟨by kernel_rfl, fun w hSw => by (obtain ⟨hRb, hLx, hbx, hck2, p0, p1, p2, p3, p4, p5⟩ := HSEE.out _ hSw; (try simp only at hRb hLx hbx hck2 p0 p1 p2 p3 p4 p5)); go_simp; first | done | with_reducible rfl⟩) ?_
      refine tkD 6 rfl (.inl ⟨by kernel_rfl, fun w hSw => by (obtain ⟨hRb, hLx, hbx, hck2, p0, p1, p2, p3, p4, p5⟩ := HSEE.out _ hSw; (try simp only at hRb hLx hbx hck2 p0 p1 p2 p3 p4 p5)); go_simp; first | done | with_reducible rfl⟩) ?_
      refine tkD 7 rfl (.inl ⟨by kernel_rfl, fun w hSw => by (obtain ⟨hRb, hLx, hbx, hck2, p0, p1, p2, p3, p4, p5⟩ := HSEE.out _ hSw; (try simp only at hRb hLx hbx hck2 p0 p1 p2 p3 p4 p5)); go_simp; first | done | with_reducible rfl⟩) ?_
      refine zq16 (rs := [8]) (by kernel_rfl) (by simp) (AllReadyD.cons rfl (by kernel_rfl) (fun K hK => ?hcz1) AllReadyD.nil)
      go_simp
      refine hK.out _ _ (by (try dsimp only); (exact hHeld)) ?_
      clear hHeld hK; intro hHeld
      refine zq16 (rs := [9]) (by kernel_rfl) (by simp) (AllReadyD.last rfl (by kernel_rfl) (fun K hK => ?hcz2) AllReadyD.nil)
      go_simp
      (go_at_call 79; refine (HOF.out _ hHeld).mono ?_; rintro e' w9 ⟨rfl, B', ⟨vs2, h2, hB2⟩, hT9, hB9⟩; (try dsimp only))
      refine hK.out _ _ ?_
      clear hHeld hK
      have hHeld := True.intro
      refine wpAnyH_done (by kernel_rfl) ?_ _
      clear hHeld
      refine NoPanic.normal ?_
      have HE := hidep (show rowL T C k (zq1f T C k) (ps.take (i + 1)) = zqa3 T C k lsi p from by
        rw [HTK.out, HLSI.out]
        unfold rowL
        rw [List.foldl_append]
        rfl)
      have H2 := hidep h2
      clear h2 hT9 hB9 hB2
      go_wp2
      refine ⟨LoopI.mk rfl ⟨rfl, rfl, rfl, rfl, rfl, rfl, rfl, i + 1, vs2, by omega, by show Value.int _ _ = _; go_num, by rw [HE.out, HN.out]; exact H2.out⟩, ?_⟩
      show ps.length - _ < ps.length - _
      simp [natI]; omega
    · have hii : ¬ (i : Int) < (ps.length : Int) := by omega
      have hie : i = ps.length := by omega
      have HE := hidep (show lsi = zq1f T C (k + 1) from by rw [HLSI.out, hie, List.take_length, HPS.out]; rfl)
      clear hL hrk hrv hlsi hcell hgr hkl hsame hie
      go_wp2
      refine ⟨LoopI.mk rfl ⟨rfl, rfl, rfl, rfl, rfl, k + 1, vs1, by omega, by show Value.int _ _ = _; go_num, by rw [<- HE.out]; exact HL.out.pre, HL.out.lbox, HL.out.low, by rw [<- HE.out]; exact HL.out.plss⟩, ?_⟩
      show n + 1 - _ < n + 1 - _
      simp [natI]; omega
  · have hki : ¬ (k : Int) < (n : Int) + 1 := by omega
    have hke : k = n + 1 := by omega
    have hlx := zq5 hx
    have HE := hidep (show liveZ T C = zq1f T C k from by rw [hke, HN.out]; rfl)
    clear hP hx hb hpl
    go_wp2
    go_ret
    exact ⟨_, rfl, by rw [HE.out, <- HN.out]; exact HX.out.2.2, HX.out.2.1⟩
end Go.Proofs.YtcfjepcflanjbaaGreat
