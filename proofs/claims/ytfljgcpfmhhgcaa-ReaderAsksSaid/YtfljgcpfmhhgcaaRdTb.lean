/- Contract: the code's table. -/
import Derived.Test.YtfljgcpfmhhgcaaRdRe
namespace Go.Proofs.Ytfljgcpfmhhgcaa
open Go.RowKit Go.Lab
attribute [local go_sem] Oper.semAt_some
/-- A list of ints in a block whose element type satisfies T. -/
def IntsOf (T : TypeId → Prop) (w : World) (v : Value) (l : List Int) : Prop := Rd w T 1 v l.length (intsC l) ∧ ∀ x ∈ l, -9223372036854775808 ≤ x ∧ x ≤ 9223372036854775807
theorem IntsOf.keeps {T : TypeId → Prop} {w w' : World} {v : Value} {l : List Int} (h : IntsOf T w v l) (hk : Keeps T w w') : IntsOf T w' v l := ⟨h.1.keeps hk, h.2⟩
theorem IntsOf.at {T : TypeId → Prop} {w : World} {v : Value} {l : List Int} (h : IntsOf T w v l) : IntsAt w v l := ⟨h.1.mono (fun _ _ => trivial), h.2⟩
/-- A table in memory. -/
def TabOf (T : TypeId → Prop) (w : World) (v : Value) (rows : List (List Int)) : Prop := ∃ vs : List Value, vs.length = rows.length ∧ Rd w T 1 v rows.length vs ∧ ∀ (i : Nat) (u : Value) (r : List Int), vs[i]? = some u → rows[i]? = some r → IntsOf T w u r
def TabAt (w : World) (v : Value) (rows : List (List Int)) : Prop := TabOf (fun _ => True) w v rows
def TkR (t : TypeId) : Prop := t = 22 ∨ t = 3
theorem TabOf.keeps {T : TypeId → Prop} {w w' : World} {v : Value} {rows : List (List Int)} (h : TabOf T w v rows) (hk : Keeps T w w') : TabOf T w' v rows := by
  obtain ⟨vs, h1, h2, h3⟩ := h
  exact ⟨vs, h1, h2.keeps hk, fun i u r hu hr => (h3 i u r hu hr).keeps hk⟩
theorem TabOf.below {T : TypeId → Prop} {w w' : World} {v : Value} {rows : List (List Int)} (h : TabOf T w v rows) (hb : Below w.heap.size w w') : TabOf T w' v rows := h.keeps (Keeps.below _ hb)
theorem TabOf.mono {T T' : TypeId → Prop} {w : World} {v : Value} {rows : List (List Int)} (h : TabOf T w v rows) (hT : ∀ t, T t → T' t) : TabOf T' w v rows := by
  obtain ⟨vs, h1, h2, h3⟩ := h
  exact ⟨vs, h1, h2.mono hT, fun i u r hu hr => ⟨(h3 i u r hu hr).1.mono hT, (h3 i u r hu hr).2⟩⟩
theorem TabOf.at {T : TypeId → Prop} {w : World} {v : Value} {rows : List (List Int)} (h : TabOf T w v rows) : TabAt w v rows := h.mono (fun _ _ => trivial)
theorem TabAt.below {w w' : World} {v : Value} {rows : List (List Int)} (h : TabAt w v rows) (hb : Below w.heap.size w w') : TabAt w' v rows := TabOf.below h hb
theorem TabOf.form {T : TypeId → Prop} {w : World} {v : Value} {rows : List (List Int)} (h : TabOf T w v rows) : ∃ a cap, v = .slice a rows.length cap ∧ rows.length ≤ cap ∧ cap ≤ maxLen := by
  obtain ⟨vs, _, h2, _⟩ := h
  exact h2.form
def rowL (way : Int) (L : List Pl) (s : Nat) : List Int := (List.range L.length).map fun k => tabV way L s k
def tabL (way : Int) (L : List Pl) : List (List Int) := (List.range (2 ^ L.length)).map fun s => rowL way L s
def cellFold (way : Int) (L : List Pl) (s k : Nat) (l : List Nat) : Int := l.foldl (fun a j => takeZ a (tabV way L (s - 2 ^ k) j + costZ way (lp L j) (lp L k))) (if s = 2 ^ k then takeZ (-1) (costZ way pl0 (lp L k)) else -1)
theorem cellFold_snoc (way : Int) (L : List Pl) (s k : Nat) (l : List Nat) (j : Nat) : cellFold way L s k (l ++ [j]) = takeZ (cellFold way L s k l) (tabV way L (s - 2 ^ k) j + costZ way (lp L j) (lp L k)) := by
  simp [cellFold]
theorem slTabR : SlT Try.prog 33 22 (.slice none 0 0) 1 24 := ⟨by kernel_rfl, by kernel_rfl, rfl, by decide⟩
theorem Turned.keepsM {T : Nat → Prop} {w w' : World} (h : Turned T w w') (hT : ∀ b, T b → w.heap[b]? ≠ some (.deferred (some []))) : KeepsM w w' := fun r hr => h.cells hr (fun ht => hT r ht hr)
theorem wp_abs {P : Program} {c : Code} {Q : Exit → Act → World → Prop} {a : Act} {w : World} (Pw : World → Prop) (h : Pw w) (k : ∀ w', Pw w' → c.wp P Q a w') : c.wp P Q a w := k w h
theorem Turned.same {T : Nat → Prop} {w w1 w2 : World} (h : Turned T w w1) (h1 : w2.os = w1.os) (h2 : w2.tape = w1.tape) (h3 : w2.output = w1.output) (h4 : w2.heap = w1.heap) : Turned T w w2 :=
  ⟨h1.trans h.os, h2.trans h.tape, h3.trans h.output, by rw [h4]; exact h.size, fun b hb hT => by rw [h4]; exact h.block b hb hT⟩
@[go_sem] theorem run_store_func {P : Program} (w : World) (a : Addr) (m : Mode) (f : Fn) (x : Array Value) (y : Array Value) : (store a (.func f x y) m).run P w = stored P w a (.func f x y) m := run_store P w a _ m rfl
theorem range_map96 (f : Nat → Value) : (List.range 96).map f = [f 0, f 1, f 2, f 3, f 4, f 5, f 6, f 7, f 8, f 9, f 10, f 11, f 12, f 13, f 14, f 15, f 16, f 17, f 18, f 19, f 20, f 21, f 22, f 23, f 24, f 25, f 26, f 27, f 28, f 29, f 30, f 31, f 32, f 33, f 34, f 35, f 36, f 37, f 38, f 39, f 40, f 41, f 42, f 43, f 44, f 45, f 46, f 47, f 48, f 49, f 50, f 51, f 52, f 53, f 54, f 55, f 56, f 57, f 58, f 59, f 60, f 61, f 62, f 63, f 64, f 65, f 66, f 67, f 68, f 69, f 70, f 71, f 72, f 73, f 74, f 75, f 76, f 77, f 78, f 79, f 80, f 81, f 82, f 83, f 84, f 85, f 86, f 87, f 88, f 89, f 90, f 91, f 92, f 93, f 94, f 95] := rfl
theorem frame96 (t : Array Value) (ds : List Deferred) (h : t.size = 96) : ({ tmps := t, defers := ds } : Act) = { tmps := #[slot t 0, slot t 1, slot t 2, slot t 3, slot t 4, slot t 5, slot t 6, slot t 7, slot t 8, slot t 9, slot t 10, slot t 11, slot t 12, slot t 13, slot t 14, slot t 15, slot t 16, slot t 17, slot t 18, slot t 19, slot t 20, slot t 21, slot t 22, slot t 23, slot t 24, slot t 25, slot t 26, slot t 27, slot t 28, slot t 29, slot t 30, slot t 31, slot t 32, slot t 33, slot t 34, slot t 35, slot t 36, slot t 37, slot t 38, slot t 39, slot t 40, slot t 41, slot t 42, slot t 43, slot t 44, slot t 45, slot t 46, slot t 47, slot t 48, slot t 49, slot t 50, slot t 51, slot t 52, slot t 53, slot t 54, slot t 55, slot t 56, slot t 57, slot t 58, slot t 59, slot t 60, slot t 61, slot t 62, slot t 63, slot t 64, slot t 65, slot t 66, slot t 67, slot t 68, slot t 69, slot t 70, slot t 71, slot t 72, slot t 73, slot t 74, slot t 75, slot t 76, slot t 77, slot t 78, slot t 79, slot t 80, slot t 81, slot t 82, slot t 83, slot t 84, slot t 85, slot t 86, slot t 87, slot t 88, slot t 89, slot t 90, slot t 91, slot t 92, slot t 93, slot t 94, slot t 95], defers := ds } := by
  have e : t = ((List.range 96).map (slot t)).toArray := by
    apply Array.ext
    · simp [h]
    · intro i h1 h2
      simp [slot, Array.getD, h1]
  rw [range_map96] at e
  exact congrArg (fun x => ({ tmps := x, defers := ds } : Act)) e
/-- The table as far as its first i rows are made, in blocks of their own. -/
def TabSt (W0 wr : World) (way : Int) (L : List Pl) (B N n i : Nat) (ds : List Deferred) : Prop :=
  Turned (fun b => b = B + 3) W0 wr ∧ Marks (B + 5) ds wr ∧ ∃ rb : Nat → Nat, wr.rowIs (B + 3) 22 N (fun j => if j < i then .slice (some ⟨rb j, 0, none⟩) n n else .slice none 0 0) ∧
    ∀ j, j < i → B + 5 ≤ rb j ∧ wr.rowIs (rb j) 3 n (fun k => .int .i64 (tabV way L j k))
set_option maxRecDepth 100000 in
set_option maxHeartbeats 4000000 in
theorem table_any (way : Int) (pl : List Pl) (need : List Int) (pv nv : Value) (hok : ∀ p ∈ pl, PlOk p) (hneed : NeedOk pl need) (w : World) (hp : PlacesAt w pv pl) (hn : IntsAt w nv need) :
    Calls Try.prog 38 #[.int .i64 way, pv, nv] w fun e w' => ∃ v, e = .returned v ∧ TabOf TkR w' v (tabL way (needL pl need)) ∧ Below w.heap.size w w' := by
  obtain ⟨a, c, rfl, hca, hma⟩ := hp.form
  obtain ⟨b, d, rfl, hcb, hmb⟩ := hn.1.form
  unfold maxLen at hma hmb
  obtain ⟨hn8, hnd⟩ := hneed
  have HNEED := hidep (show NeedOk pl need from ⟨hn8, hnd⟩)
  have HNL := hidep (needL_len pl need)
  clear hnd
  obtain ⟨n, hnn⟩ : ∃ n, need.length = n := ⟨_, rfl⟩
  rw [hnn] at hn8 hcb hn
  have HNN := hidep hnn
  clear hnn
  have hN := two_pow_lt hn8
  obtain ⟨N, hNN⟩ : ∃ N, N = 2 ^ n := ⟨_, rfl⟩
  rw [← hNN] at hN
  have hN1 : 1 ≤ N := by rw [hNN]; exact Nat.two_pow_pos n
  have hshl : wrap64 (2 ^ n) = ((N : Nat) : Int) := by
    rw [hNN]
    have : ∀ n, n ≤ 8 → wrap64 (2 ^ n) = ((2 ^ n : Nat) : Int) := by decide +kernel
    exact this n hn8
  have HN2 := hidep hNN
  clear hNN
  have HTB := hidep (show ∀ s, s < 512 → ∀ k, -1 ≤ tabV way (needL pl need) s k ∧ tabV way (needL pl need) s k ≤ 10240000000 from fun s hs k => tabV_bd (needL_ok hok) hs k)
  have hmk := fun W => run_make_row' (P := Try.prog) 33 22 (.slice none 0 0) 24 Try.underlying33 slTabR.2.1 rfl .i64 .i64 N (by omega) (by omega) W
  have hfw : Fence.wide.fn 38 := trivial
  refine (callsIn_wide (n := 8)).1 ?_
  refine callsIn_of_wp_marks Try.func38 rfl hfw ?_ rfl
  simp only [Try.ntmps38, List.size_toArray, List.length_cons, List.length_nil, Nat.reduceAdd, Nat.reduceSub, Array.replicate_succ, Array.replicate_zero, List.push_toArray, List.append_toArray, List.nil_append, List.cons_append]
  rw [HNN.out]
  refine wpIn_wide.2 ?_
  have hn0 : (0 : Int) ≤ (n : Int) := by omega
  have hn9 : (n : Int) ≤ 8 := by omega
  have hq := allocs_get [.cells #[.int .i64 way] 3, .cells #[.slice a pl.length c] 23, .cells #[.slice b n d] 22, .cells (madeCells #[.slice none 0 0] N) 22, .cells #[.slice (some ⟨w.heap.size + 3, 0, none⟩) N N] 33] w
  have hwb := allocs_below [.cells #[.int .i64 way] 3, .cells #[.slice a pl.length c] 23, .cells #[.slice b n d] 22, .cells (madeCells #[.slice none 0 0] N) 22, .cells #[.slice (some ⟨w.heap.size + 3, 0, none⟩) N N] 33] w
  have hsz := allocs_size [.cells #[.int .i64 way] 3, .cells #[.slice a pl.length c] 23, .cells #[.slice b n d] 22, .cells (madeCells #[.slice none 0 0] N) 22, .cells #[.slice (some ⟨w.heap.size + 3, 0, none⟩) N N] 33] w
  go_wp2
  change Code.wp _ _ _ _ (allocs w [.cells #[.int .i64 way] 3, .cells #[.slice a pl.length c] 23, .cells #[.slice b n d] 22, .cells (madeCells #[.slice none 0 0] N) 22, .cells #[.slice (some ⟨w.heap.size + 3, 0, none⟩) N N] 33])
  generalize allocs w [.cells #[.int .i64 way] 3, .cells #[.slice a pl.length c] 23, .cells #[.slice b n d] 22, .cells (madeCells #[.slice none 0 0] N) 22, .cells #[.slice (some ⟨w.heap.size + 3, 0, none⟩) N N] 33] = W0 at *
  simp only [List.length_cons, List.length_nil] at hsz
  have q0 := hq 0 _ rfl
  have q1 := hq 1 _ rfl
  have q2 := hq 2 _ rfl
  have q3 := hq 3 _ rfl
  have q4 := hq 4 _ rfl
  clear hq
  have hrow0 : W0.rowIs (w.heap.size + 3) 22 N (fun _ => .slice none 0 0) := ⟨_, q3, size_madeCells _ _, fun i hi => by simp [madeCells, hi, Nat.mod_one]⟩
  clear q3
  refine wp_loop (LoopI 96 (fun tm ds wr => (slot tm 3) = .pointer (some ⟨w.heap.size, 0, none⟩) ∧ (slot tm 4) = .pointer (some ⟨w.heap.size + 1, 0, none⟩) ∧ (slot tm 5) = .pointer (some ⟨w.heap.size + 2, 0, none⟩) ∧ (slot tm 7) = .int .i64 (n : Nat) ∧ (slot tm 8) = .pointer (some ⟨w.heap.size + 4, 0, none⟩) ∧ (slot tm 21) = .int .i64 (N : Nat) ∧ ∃ i : Nat, i ≤ N ∧ (slot tm 22) = .int .i64 (i : Nat) ∧ TabSt W0 wr way (needL pl need) w.heap.size N n i ds)) (fun a' wr => N - (intOf (a'.tmps.getD 22 undef)).toNat) ?outerStart ?outerRound
  case' outerStart => refine LoopI.mk rfl ?_
  case' outerRound => (rintro ⟨t, ds⟩ wr ⟨hts, hrel⟩; dsimp only at hts hrel; rw [frame96 t ds hts])
  case outerStart => exact ⟨rfl, rfl, rfl, rfl, rfl, rfl, 0, Nat.zero_le _, rfl, Turned.refl _ _, Marks.nil _ _, fun _ => 0, hrow0.congr (fun _ _ => by simp), fun _ h => absurd h (Nat.not_lt_zero _)⟩
  obtain ⟨h3, h4, h5, h7, h8, h21, i, hi, h22, hTS⟩ := hrel
  rw [h3, h4, h5, h7, h8, h21, h22]
  clear h3 h4 h5 h7 h8 h21 h22 hts
  by_cases hlt : i < N
  · have hi0 : (0 : Int) ≤ (i : Int) := by omega
    have hi1 : (i : Int) < (N : Int) := by omega
    obtain ⟨hT, hMk, rb, hrows, hdone⟩ := hTS
    have HD := hidep hdone
    have HR := hidep hrows
    have HMK := hidep hMk
    have hsw := hT.size
    have c4 := box1_cell (hT.cells q4 (by omega))
    have hr3 := hrows.cell hlt
    have hf3 := hrows.frozen i
    rw [if_neg (Nat.lt_irrefl i)] at hr3
    clear hdone hrows hMk
    have hil := lt_of_block (hT.cells q4 (by omega))
    have k4 : (wr.alloc (.cells #[.int .i64 (i : Nat)] 3)).cell? ⟨w.heap.size + 4, 0, none⟩ = some (.slice (some ⟨w.heap.size + 3, 0, none⟩) N N) := (((Below.refl _ wr).alloc (Nat.le_refl _) _).cell (p := ⟨w.heap.size + 4, 0, none⟩) hil).trans c4
    have k9 : (wr.alloc (.cells #[.int .i64 (i : Nat)] 3)).cell? ⟨wr.heap.size, 0, none⟩ = some (.int .i64 (i : Nat)) := box1_cell (heap_alloc_new wr _)
    have hne39 : ¬ w.heap.size + 3 = wr.heap.size := by omega
    have hsl : ((wr.alloc (.cells #[.int .i64 (i : Nat)] 3)).alloc (.cells #[.int .i64 (-1)] 3)).drew.heap[wr.heap.size + 1]? = some (.cells #[.int .i64 (-1)] 3) := by
      have := heap_alloc_new (wr.alloc (.cells #[.int .i64 (i : Nat)] 3)) (.cells #[.int .i64 (-1)] 3)
      rwa [World.size_alloc] at this
    go_upto_region 6 with (fail)
    go_region_held3 (fun X => X.cell? ⟨w.heap.size + 4, 0, none⟩ = some (.slice (some ⟨w.heap.size + 3, 0, none⟩) N N) ∧ X.cell? ⟨wr.heap.size, 0, none⟩ = some (.int .i64 (i : Nat)))
      (first | exact ⟨k4, k9⟩ | exact ⟨m4, m9⟩ | (simp [World.cell?_alloc_some, k4, k9]; done) | go_keep)
      (first
        | (go_at_call 59; refine (repeat_any _ n hn8 _ (by exact hsl)).mono ?_; rintro e w3 ⟨g, rfl, hg1, hg2, hb3⟩; have hb9 : Below (wr.heap.size + 1) (wr.alloc (.cells #[.int .i64 (i : Nat)] 3)) w3 := ((((Below.refl _ (wr.alloc (.cells #[.int .i64 (i : Nat)] 3)))).alloc (by simp) _).drew).trans (hb3.mono (by simp)); have m4 := (hb9.cell (p := ⟨w.heap.size + 4, 0, none⟩) (by simp only; omega)).trans k4; have m9 := (hb9.cell (p := ⟨wr.heap.size, 0, none⟩) (by simp only; omega)).trans k9; have hbw := ((Below.refl _ wr).alloc (Nat.le_refl _) (.cells #[.int .i64 (i : Nat)] 3)).trans (hb9.mono (Nat.le_succ _)); have hr33 := (hbw.cell (p := ⟨w.heap.size + 3, i, none⟩) (by simp only; omega)).trans hr3; have hf33 := (hbw.frozen (p := ⟨w.heap.size + 3, i, none⟩) (by simp only; omega)).trans hf3; dsimp only)
        | fail)
    have HBW := hidep hbw
    obtain ⟨Wm, hWm⟩ : ∃ Wm, Wm = w3.setCell ⟨w.heap.size + 3, i, none⟩ (.slice (some ⟨g, 0, none⟩) n n) := ⟨_, rfl⟩
    rw [← hWm]
    have hTm : Turned (fun b => b = w.heap.size + 3) wr Wm := by rw [hWm]; exact (Turned.of_below hbw).setCell _ _ (.inr rfl)
    have hgsz : wr.heap.size + 1 < g := by simp at hg1; omega
    have hwg3 : w3.rowIs g 3 n (fun _ => .int .i64 (-1)) := ⟨_, hg2, by simp [negs], fun j hj => by simp [negs, hj]⟩
    have hgm : Wm.rowIs g 3 n (fun _ => .int .i64 (-1)) := by rw [hWm]; exact hwg3.setOther (by simp only; omega) _
    have hgl := hgm.lt
    have h9m : Wm.heap[wr.heap.size]? = some (.cells #[.int .i64 (i : Nat)] 3) := by
      have h9w : w3.heap[wr.heap.size]? = some (.cells #[.int .i64 (i : Nat)] 3) := (hb9.block wr.heap.size (by omega)).trans (heap_alloc_new wr _)
      rw [hWm]
      exact (Below.heap_setCell w3 ⟨w.heap.size + 3, i, none⟩ _ _ (by simp only; omega)).trans h9w
    have hrm : Wm.rowIs (w.heap.size + 3) 22 N (fun j => if j < i + 1 then .slice (some ⟨if j = i then g else rb j, 0, none⟩) n n else .slice none 0 0) := by
      rw [hWm]
      refine ((rowIs_below HR.out hbw (by omega)).set i _).congr (fun j hj => ?_)
      by_cases hji : j = i
      · subst hji; rw [if_pos rfl, if_pos (by omega), if_pos rfl]
      · rw [if_neg hji]
        by_cases hj2 : j < i
        · rw [if_pos hj2, if_pos (by omega), if_neg hji]
        · rw [if_neg hj2, if_neg (by omega)]
    have hkm : KeepsM wr Wm := fun r hr => by
      have h3 := (hbw.block r (lt_of_block hr)).trans hr
      rw [hWm]
      refine (Below.heap_setCell w3 ⟨w.heap.size + 3, i, none⟩ _ _ (fun e => ?_)).trans h3
      subst e
      obtain ⟨cc, hcc, _⟩ := HR.out
      rw [hcc] at hr
      injection hr with hr
      cases hr
    have hmm := HMK.out.kept hkm
    have hsm := hTm.size
    have hdm : ∀ j, j < i → w.heap.size + 5 ≤ rb j ∧ rb j < wr.heap.size ∧ Wm.rowIs (rb j) 3 n (fun k => .int .i64 (tabV way (needL pl need) j k)) := fun j hj => by
      obtain ⟨h1, h2⟩ := HD.out j hj
      exact ⟨h1, h2.lt, h2.of_block (hTm.block _ h2.lt (by omega))⟩
    have HDM := hidep hdm
    have HRM := hidep hrm
    have hTW : Turned (fun b => b = w.heap.size + 3) W0 Wm := hT.trans hTm
    have hgs : Wm.heap.size ≥ wr.heap.size + 1 := by omega
    clear hdm hrm hWm HBW hbw hb9 hb3 m4 m9 hr33 hf33 hg1 hg2 hwg3 k4 k9 hsl hr3 hf3 hkm c4
    generalize hp9 : wr.heap.size = p9 at *
    obtain ⟨wo, hwo⟩ : ∃ wo : World, wo = wr := ⟨_, rfl⟩
    subst hwo
    go_wp2
    refine wp_loop (LoopI 96 (fun tm ds wr => (slot tm 3) = .pointer (some ⟨w.heap.size, 0, none⟩) ∧ (slot tm 4) = .pointer (some ⟨w.heap.size + 1, 0, none⟩) ∧ (slot tm 5) = .pointer (some ⟨w.heap.size + 2, 0, none⟩) ∧ (slot tm 7) = .int .i64 (n : Nat) ∧ (slot tm 8) = .pointer (some ⟨w.heap.size + 4, 0, none⟩) ∧ (slot tm 9) = .pointer (some ⟨p9, 0, none⟩) ∧ (slot tm 21) = .int .i64 (N : Nat) ∧ (slot tm 22) = .int .i64 (i : Nat) ∧ (slot tm 31) = .int .i64 (n : Nat) ∧ ∃ k : Nat, k ≤ n ∧ (slot tm 32) = .int .i64 (k : Nat) ∧ Turned (fun b => b = g) Wm wr ∧ Marks (w.heap.size + 5) ds wr ∧ wr.rowIs g 3 n (fun j => if j < k then .int .i64 (tabV way (needL pl need) i j) else .int .i64 (-1)))) (fun a' wr => n - (intOf (a'.tmps.getD 32 undef)).toNat) ?midStart ?midRound
    case' midStart => refine LoopI.mk rfl ?_
    case' midRound => (rintro ⟨t, ds⟩ wr ⟨hts, hrel⟩; dsimp only at hts hrel; rw [frame96 t ds hts])
    case midStart => exact ⟨rfl, rfl, rfl, rfl, rfl, rfl, rfl, rfl, rfl, 0, Nat.zero_le _, rfl, Turned.refl _ _, hmm, hgm.congr (fun _ _ => by simp)⟩
    obtain ⟨h3, h4, h5, h7, h8, h9, h21, h22, h31, k, hk, h32, hTk, hMk, hrow⟩ := hrel
    rw [h3, h4, h5, h7, h8, h9, h21, h22, h31, h32]
    clear h3 h4 h5 h7 h8 h9 h21 h22 h31 h32 hts
    have HMK2 := hidep hMk
    have HROW := hidep hrow
    have hsk := hTk.size
    have hk0 : (0 : Int) ≤ (k : Int) := by omega
    clear hMk hrow
    by_cases hkn : k < n
    · have hkn1 : (k : Int) < (n : Int) := by omega
      have hab := and_bit0 i k (by omega)
      have c9 := box1_cell (hTk.cells h9m (by omega))
      have hc9b := lt_of_block h9m
      have k9 : (wr.alloc (.cells #[.int .i64 (k : Nat)] 3)).cell? ⟨p9, 0, none⟩ = some (.int .i64 (i : Nat)) := (((Below.refl _ wr).alloc (Nat.le_refl _) _).cell (p := ⟨p9, 0, none⟩) (by simp only; omega)).trans c9
      cases hbk : i.testBit k with
      | false =>
        rw [hbk] at hab
        have HV := hidep (tabV_no way (needL pl need) i k hbk)
        clear hbk
        go_wp2
        refine ⟨LoopI.mk rfl ⟨rfl, rfl, rfl, rfl, rfl, rfl, rfl, rfl, rfl, k + 1, by omega, by show Value.int _ _ = _; go_num, hTk.alloc _, HMK2.out.kept (KeepsM.below ((Below.refl _ _).alloc (Nat.le_refl _) _)), ?_⟩, ?_⟩
        · refine (HROW.out.alloc _).congr (fun j hj => ?_)
          by_cases hjk : j = k
          · subst hjk; rw [if_neg (Nat.lt_irrefl _), if_pos (by omega), HV.out]
          · by_cases hj2 : j < k
            · rw [if_pos hj2, if_pos (by omega)]
            · rw [if_neg hj2, if_neg (by omega)]
        · show n - _ < n - _
          simp [intOf]; omega
      | true =>
        rw [hbk] at hab
        have HBK := hidep hbk
        clear hbk
        have hkl : k < need.length := by rw [HNN.out]; exact hkn
        obtain ⟨pi, hpi, hni, hli⟩ := needL_get HNEED.out hkl
        have hTWk : Turned (fun b => b = w.heap.size + 3 ∨ b = g) W0 wr := (hTW.mono (T' := fun b => b = w.heap.size + 3 ∨ b = g) (fun _ _ h => .inl h)).trans (hTk.mono (fun _ _ h => .inr h))
        have hTww : Turned (fun _ => False) w wr := ((Turned.of_below (T := fun b => b = w.heap.size + 3 ∨ b = g) hwb).trans hTWk).mono (fun b hb h => by rcases h with h | h <;> omega)
        have hnw : IntsAt w (.slice b need.length d) need := by rw [HNN.out]; exact hn
        obtain ⟨nb, no, rfl, hnbl, hnc⟩ := ints_get hnw hkl
        obtain ⟨pb, po, rfl, hpbl, p0, p1, p2, p3, p4, p5⟩ := PlacesAt.at hp hpi
        rw [hni] at hnc
        have hpk := lp_ok (needL_ok hok (need := need)) k
        have HLI := hidep hli
        rw [hli] at hpk
        generalize pl[pi] = tp at *
        obtain ⟨t0, t1, t2, t3, t4, t5⟩ := tp
        simp only at p0 p1 p2 p3 p4 p5
        have hpi0 : (0 : Int) ≤ (pi : Int) := by omega
        have hpi1 : (pi : Int) < (pl.length : Int) := by omega
        have hq0 := hTWk.cells q0 (by omega)
        have hq1 := hTWk.cells q1 (by omega)
        have hq2 := hTWk.cells q2 (by omega)
        have hq4 := hTWk.cells q4 (by omega)
        have hq9 := hTk.cells h9m (by omega)
        have hr3k := HRM.out.of_block (hTk.block (w.heap.size + 3) (by omega) (by omega))
        have hdk : ∀ j, j < i → rb j < p9 ∧ wr.rowIs (rb j) 3 n (fun k => .int .i64 (tabV way (needL pl need) j k)) := fun j hj => by
          obtain ⟨y1, y2, y3⟩ := HDM.out j hj
          exact ⟨y2, y3.of_block (hTk.block _ (by omega) (by omega))⟩
        have HR3 := hidep hr3k
        have HDK := hidep hdk
        have hgk : g < wr.heap.size := by omega
        clear hr3k hdk
        go_upto_region 11 with (fail)
        refine wp_abs (fun X => Turned (fun _ => False) wr X ∧ X.heap[wr.heap.size]? = some (.cells #[.int .i64 (k : Nat)] 3)) ⟨(Turned.refl _ _).alloc _, heap_alloc_new _ _⟩ ?_
        rintro W1 ⟨hT1, hq10⟩
        have hs1 := lt_of_block hq10
        have hTw1 := hTww.trans hT1
        have HC1 := hidep (show ∀ X, Turned (fun _ => False) W1 X → X.cell? ⟨w.heap.size + 1, 0, none⟩ = some (.slice (some ⟨pb, po, none⟩) pl.length c) ∧ X.cell? ⟨w.heap.size + 2, 0, none⟩ = some (.slice (some ⟨nb, no, none⟩) n d) ∧ X.cell? ⟨wr.heap.size, 0, none⟩ = some (.int .i64 (k : Nat)) ∧
            X.cell? ⟨nb, no + k, none⟩ = some (.int .i64 (pi : Nat)) ∧ X.cell? ⟨pb, po + pi * 6, none⟩ = some (.int .i64 t0) ∧ X.cell? ⟨pb, po + pi * 6 + 1, none⟩ = some (.int .i64 t1) ∧ X.cell? ⟨pb, po + pi * 6 + 2, none⟩ = some (.int .i64 t2) ∧
            X.cell? ⟨pb, po + pi * 6 + 3, none⟩ = some (.int .i64 t3) ∧ X.cell? ⟨pb, po + pi * 6 + 4, none⟩ = some (.int .i64 t4) ∧ X.cell? ⟨pb, po + pi * 6 + 5, none⟩ = some (.int .i64 t5) from fun X hX =>
          have hh := hTw1.trans hX
          ⟨box1_cell ((hT1.trans hX).cells hq1 id), box1_cell ((hT1.trans hX).cells hq2 id), box1_cell (hX.cells hq10 id), hh.cell hnc id, hh.cell p0 id, hh.cell p1 id, hh.cell p2 id, hh.cell p3 id, hh.cell p4 id, hh.cell p5 id⟩)
        refine wp_region_noPanic (wp_region_held_drew (S := (fun X => Turned (fun _ => False) W1 X)) (by kernel_rfl) ?hS38r11n0 (fun hHeld => ?hR38r11n0))
        case hS38r11n0 => ((try dsimp only); (exact (Turned.refl _ _).drew))
        refine wpAnyH_take (i := 0) (v := ?v38r11n0q1) rfl (by kernel_rfl) (by kernel_rfl) (by kernel_rfl) (fun _ _ _ h => h) (Or.inl ⟨by kernel_rfl, ?hy38r11n0q1⟩) (by assumption) ?hr38r11n0q1
        case hy38r11n0q1 => (intro w hSw; (try dsimp only at hSw); (obtain ⟨c1, c2, c3, c4, c5, c6, c7, c8, c9, c10⟩ := HC1.out w hSw); first | (go_simp; done) | (go_simp; with_reducible rfl))
        refine wpAnyH_take (i := 1) (v := ?v38r11n0q2) rfl (by kernel_rfl) (by kernel_rfl) (by kernel_rfl) (fun _ _ _ h => h) (Or.inl ⟨by kernel_rfl, ?hy38r11n0q2⟩) (by assumption) ?hr38r11n0q2
        case hy38r11n0q2 => (intro w hSw; (try dsimp only at hSw); (obtain ⟨c1, c2, c3, c4, c5, c6, c7, c8, c9, c10⟩ := HC1.out w hSw); first | (go_simp; done) | (go_simp; with_reducible rfl))
        refine wpAnyH_take (i := 2) (v := ?v38r11n0q3) rfl (by kernel_rfl) (by kernel_rfl) (by kernel_rfl) (fun _ _ _ h => h) (Or.inl ⟨by kernel_rfl, ?hy38r11n0q3⟩) (by assumption) ?hr38r11n0q3
        case hy38r11n0q3 => (intro w hSw; (try dsimp only at hSw); (obtain ⟨c1, c2, c3, c4, c5, c6, c7, c8, c9, c10⟩ := HC1.out w hSw); first | (go_simp; done) | (go_simp; with_reducible rfl))
        refine wpAnyH_take (i := 3) (v := ?v38r11n0q4) rfl (by kernel_rfl) (by kernel_rfl) (by kernel_rfl) (fun _ _ _ h => h) (Or.inl ⟨by kernel_rfl, ?hy38r11n0q4⟩) (by assumption) ?hr38r11n0q4
        case hy38r11n0q4 => (intro w hSw; (try dsimp only at hSw); (obtain ⟨c1, c2, c3, c4, c5, c6, c7, c8, c9, c10⟩ := HC1.out w hSw); first | (go_simp; done) | (go_simp; with_reducible rfl))
        refine wpAnyH_take (i := 4) (v := ?v38r11n0q5) rfl (by kernel_rfl) (by kernel_rfl) (by kernel_rfl) (fun _ _ _ h => h) (Or.inl ⟨by kernel_rfl, ?hy38r11n0q5⟩) (by assumption) ?hr38r11n0q5
        case hy38r11n0q5 => (intro w hSw; (try dsimp only at hSw); (obtain ⟨c1, c2, c3, c4, c5, c6, c7, c8, c9, c10⟩ := HC1.out w hSw); first | (go_simp; done) | (go_simp; with_reducible rfl))
        refine wpAnyH_take (i := 5) (v := ?v38r11n0q6) rfl (by kernel_rfl) (by kernel_rfl) (by kernel_rfl) (fun _ _ _ h => h) (Or.inl ⟨by kernel_rfl, ?hy38r11n0q6⟩) (by assumption) ?hr38r11n0q6
        case hy38r11n0q6 => (intro w hSw; (try dsimp only at hSw); (obtain ⟨c1, c2, c3, c4, c5, c6, c7, c8, c9, c10⟩ := HC1.out w hSw); first | (go_simp; done) | (go_simp; with_reducible rfl))
        refine wpAnyH_take (i := 6) (v := ?v38r11n0q7) rfl (by kernel_rfl) (by kernel_rfl) (by kernel_rfl) (fun _ _ _ h => h) (Or.inl ⟨by kernel_rfl, ?hy38r11n0q7⟩) (by assumption) ?hr38r11n0q7
        case hy38r11n0q7 => (intro w hSw; (try dsimp only at hSw); (obtain ⟨c1, c2, c3, c4, c5, c6, c7, c8, c9, c10⟩ := HC1.out w hSw); first | (go_simp; done) | (go_simp; with_reducible rfl))
        refine wpAnyH_ready (rs := [7]) (by kernel_rfl) (by simp) (AllReadyH.cons rfl (fun K hK => ?hc38r11n0q8) AllReadyH.nil)
        go_simp
        refine hK.out _ _ ?hs38r11n0q8 (fun hHeld38r11n0q8 => ?ht38r11n0q8)
        case hs38r11n0q8 => ((try dsimp only); (first | exact hHeld.alloc _ | exact (Turned.refl _ _).drew.alloc _ | exact ((Turned.refl _ _).alloc _).drew))
        clear hHeld hK
        have hHeld := hHeld38r11n0q8
        clear hHeld38r11n0q8
        refine wpAnyH_ready (rs := [8]) (by kernel_rfl) (by simp) (AllReadyH.cons rfl (fun K hK => ?hc38r11n0q9) AllReadyH.nil)
        go_simp
        refine hK.out _ _ ?hs38r11n0q9 (fun hHeld38r11n0q9 => ?ht38r11n0q9)
        case hs38r11n0q9 => ((try dsimp only); (first | exact hHeld.alloc _ | exact (Turned.refl _ _).drew.alloc _ | exact ((Turned.refl _ _).alloc _).drew))
        clear hHeld hK
        have hHeld := hHeld38r11n0q9
        clear hHeld38r11n0q9
        refine wpAnyH_done (by kernel_rfl) ?_ _
        clear hHeld
        refine NoPanic.normal ?_
        go_upto_region 14 with (fail)
        refine wp_abs (fun X => Turned (fun _ => False) W1 X ∧ X.heap[W1.heap.size]? = some (.cells #[.int .i64 t0, .int .i64 t1, .int .i64 t2, .int .i64 t3, .int .i64 t4, .int .i64 t5] 26) ∧ X.heap[W1.heap.size + 1]? = some (.cells #[.int .i64 (-1)] 3) ∧ X.heap[W1.heap.size + 2]? = some (.cells #[.func (.func 60) #[] #[.pointer (some ⟨W1.heap.size + 1, 0, none⟩)]] 118)) ⟨(Turned.of_below (allocs_below [(.cells #[.int .i64 t0, .int .i64 t1, .int .i64 t2, .int .i64 t3, .int .i64 t4, .int .i64 t5] 26), .cells #[.int .i64 (-1)] 3, (.cells #[.func (.func 60) #[] #[.pointer (some ⟨W1.heap.size + 1, 0, none⟩)]] 118)] W1)).same rfl rfl rfl rfl, allocs_get [(.cells #[.int .i64 t0, .int .i64 t1, .int .i64 t2, .int .i64 t3, .int .i64 t4, .int .i64 t5] 26), .cells #[.int .i64 (-1)] 3, (.cells #[.func (.func 60) #[] #[.pointer (some ⟨W1.heap.size + 1, 0, none⟩)]] 118)] W1 0 _ rfl, allocs_get [(.cells #[.int .i64 t0, .int .i64 t1, .int .i64 t2, .int .i64 t3, .int .i64 t4, .int .i64 t5] 26), .cells #[.int .i64 (-1)] 3, (.cells #[.func (.func 60) #[] #[.pointer (some ⟨W1.heap.size + 1, 0, none⟩)]] 118)] W1 1 _ rfl, allocs_get [(.cells #[.int .i64 t0, .int .i64 t1, .int .i64 t2, .int .i64 t3, .int .i64 t4, .int .i64 t5] 26), .cells #[.int .i64 (-1)] 3, (.cells #[.func (.func 60) #[] #[.pointer (some ⟨W1.heap.size + 1, 0, none⟩)]] 118)] W1 2 _ rfl⟩ ?_
        rintro W4 ⟨hT4, hq11, hq12, hq13⟩
        have hs4 := lt_of_block hq13
        have hT14 := hT1.trans hT4
        have HC4 := hidep (show ∀ X, Turned (fun _ => False) W4 X → X.cell? ⟨p9, 0, none⟩ = some (.int .i64 (i : Nat)) ∧ X.cell? ⟨wr.heap.size, 0, none⟩ = some (.int .i64 (k : Nat)) from fun X hX =>
          ⟨box1_cell ((hT14.trans hX).cells hq9 id), box1_cell ((hT4.trans hX).cells hq10 id)⟩)
        have hsq := shl_eq i (by omega) k (by omega)
        have hsq2 : (((i : Nat) : Int) == IntKind.i64.wrap (2 ^ k)) = decide (i = 2 ^ k) := by have := shl_eq i (by omega) k (by omega); rwa [Nat.min_eq_left (by omega)] at this
        refine wp_region_noPanic (wp_region_held_drew (S := (fun X => Turned (fun _ => False) W4 X)) (by kernel_rfl) ?hS38r14n1 (fun hHeld => ?hR38r14n1))
        case hS38r14n1 => ((try dsimp only); (exact (Turned.refl _ _).drew))
        refine wpAnyH_take (i := 0) (v := ?v38r14n1q1) rfl (by kernel_rfl) (by kernel_rfl) (by kernel_rfl) (fun _ _ _ h => h) (Or.inl ⟨by kernel_rfl, ?hy38r14n1q1⟩) (by assumption) ?hr38r14n1q1
        case hy38r14n1q1 => (intro w hSw; (try dsimp only at hSw); (obtain ⟨c1, c2⟩ := HC4.out w hSw); first | (go_simp; done) | (go_simp; with_reducible rfl))
        refine wpAnyH_take (i := 1) (v := ?v38r14n1q2) rfl (by kernel_rfl) (by kernel_rfl) (by kernel_rfl) (fun _ _ _ h => h) (Or.inl ⟨by kernel_rfl, ?hy38r14n1q2⟩) (by assumption) ?hr38r14n1q2
        case hy38r14n1q2 => (intro w hSw; (try dsimp only at hSw); (obtain ⟨c1, c2⟩ := HC4.out w hSw); first | (go_simp; done) | (go_simp; with_reducible rfl))
        refine wpAnyH_take (i := 2) (v := ?v38r14n1q3) rfl (by kernel_rfl) (by kernel_rfl) (by kernel_rfl) (fun _ _ _ h => h) (Or.inl ⟨by kernel_rfl, ?hy38r14n1q3⟩) (by assumption) ?hr38r14n1q3
        case hy38r14n1q3 => (intro w hSw; (try dsimp only at hSw); (obtain ⟨c1, c2⟩ := HC4.out w hSw); first | (go_simp; done) | (go_simp; with_reducible rfl))
        refine wpAnyH_take (i := 3) (v := ?v38r14n1q4) rfl (by kernel_rfl) (by kernel_rfl) (by kernel_rfl) (fun _ _ _ h => h) (Or.inl ⟨by kernel_rfl, ?hy38r14n1q4⟩) (by assumption) ?hr38r14n1q4
        case hy38r14n1q4 => (intro w hSw; (try dsimp only at hSw); (obtain ⟨c1, c2⟩ := HC4.out w hSw); first | (go_simp; done) | (go_simp; with_reducible rfl))
        refine wpAnyH_done (by kernel_rfl) ?_ _
        clear hHeld
        refine NoPanic.normal ?_
        have HC5 := hidep (show ∀ X, Turned (fun b => b = W1.heap.size + 1) W4 X → X.cell? ⟨W1.heap.size + 2, 0, none⟩ = some (.func (.func 60) #[] #[.pointer (some ⟨W1.heap.size + 1, 0, none⟩)]) ∧ X.cell? ⟨w.heap.size, 0, none⟩ = some (.int .i64 way) ∧ X.heap[W1.heap.size]? = some (.cells #[.int .i64 t0, .int .i64 t1, .int .i64 t2, .int .i64 t3, .int .i64 t4, .int .i64 t5] 26) from fun X hX =>
          ⟨box1_cell (hX.cells hq13 (by omega)), box1_cell (((hT14.mono (T' := fun b => b = W1.heap.size + 1) (fun _ _ h => h.elim)).trans hX).cells hq0 (by omega)), hX.cells hq11 (by omega)⟩)
        clear hsq hsq2
        have HCOST0 := hidep (fun X => rcost_any way pl0 ⟨t0, t1, t2, t3, t4, t5⟩ X pl0_ok hpk)
        obtain ⟨ini, hini⟩ : ∃ ini, ini = if i = 2 ^ k then takeZ (-1) (costZ way pl0 ⟨t0, t1, t2, t3, t4, t5⟩) else -1 := ⟨_, rfl⟩
        have HINI := hidep hini
        clear hini
        by_cases hik : i = 2 ^ k
        case' pos =>
          rw [decide_eq_true hik]
          have HI2 := hidep (HINI.out.trans (if_pos hik))
          clear hik
          have hq12' : Boxed W4 (W1.heap.size + 1) 3 (.int .i64 (-1)) := hq12
          go_upto_region 15 with (fail)
          refine wp_region_noPanic (wp_region_held_drew (S := (fun X => Turned (fun b => b = W1.heap.size + 1) W4 X)) (by kernel_rfl) ?hS38r15n2 (fun hHeld => ?hR38r15n2))
          case hS38r15n2 => ((try dsimp only); (exact (Turned.refl _ _).drew.drew))
          refine wpAnyH_take (i := 0) (v := ?v38r15n2q1) rfl (by kernel_rfl) (by kernel_rfl) (by kernel_rfl) (fun _ _ _ h => h) (Or.inl ⟨by kernel_rfl, ?hy38r15n2q1⟩) (by assumption) ?hr38r15n2q1
          case hy38r15n2q1 => (intro w hSw; (try dsimp only at hSw); (obtain ⟨c1, c2, c3⟩ := HC5.out w hSw; obtain ⟨d0, d1, d2, d3, d4, d5⟩ := box6_cells c3); first | (go_simp; done) | (go_simp; with_reducible rfl))
          refine wpAnyH_take (i := 1) (v := ?v38r15n2q2) rfl (by kernel_rfl) (by kernel_rfl) (by kernel_rfl) (fun _ _ _ h => h) (Or.inl ⟨by kernel_rfl, ?hy38r15n2q2⟩) (by assumption) ?hr38r15n2q2
          case hy38r15n2q2 => (intro w hSw; (try dsimp only at hSw); (obtain ⟨c1, c2, c3⟩ := HC5.out w hSw; obtain ⟨d0, d1, d2, d3, d4, d5⟩ := box6_cells c3); first | (go_simp; done) | (go_simp; with_reducible rfl))
          refine wpAnyH_take (i := 2) (v := ?v38r15n2q3) rfl (by kernel_rfl) (by kernel_rfl) (by kernel_rfl) (fun _ _ _ h => h) (Or.inl ⟨by kernel_rfl, ?hy38r15n2q3⟩) (by assumption) ?hr38r15n2q3
          case hy38r15n2q3 => (intro w hSw; (try dsimp only at hSw); (obtain ⟨c1, c2, c3⟩ := HC5.out w hSw; obtain ⟨d0, d1, d2, d3, d4, d5⟩ := box6_cells c3); first | (go_simp; done) | (go_simp; with_reducible rfl))
          refine wpAnyH_take (i := 3) (v := ?v38r15n2q4) rfl (by kernel_rfl) (by kernel_rfl) (by kernel_rfl) (fun _ _ _ h => h) (Or.inl ⟨by kernel_rfl, ?hy38r15n2q4⟩) (by assumption) ?hr38r15n2q4
          case hy38r15n2q4 => (intro w hSw; (try dsimp only at hSw); (obtain ⟨c1, c2, c3⟩ := HC5.out w hSw; obtain ⟨d0, d1, d2, d3, d4, d5⟩ := box6_cells c3); first | (go_simp; done) | (go_simp; with_reducible rfl))
          refine wpAnyH_ready (rs := [4]) (by kernel_rfl) (by simp) (AllReadyH.cons rfl (fun K hK => ?hc38r15n2q5) AllReadyH.nil)
          go_simp
          (go_at_call 12; refine (HCOST0.out _).mono ?_; rintro e w5 ⟨rfl, hb5⟩; (try dsimp only); have hB5 : Boxed w5 (W1.heap.size + 1) 3 (.int .i64 (-1)) := (hb5.block _ (lt_of_block hq12)).trans hq12)
          refine hK.out _ _ ?hs38r15n2q5 (fun hHeld38r15n2q5 => ?ht38r15n2q5)
          case hs38r15n2q5 => ((try dsimp only); (first | exact hHeld.below hb5 | exact hHeld.trans (Turned.of_grown hg6 rfl)))
          clear hHeld hK
          have hHeld := hHeld38r15n2q5
          clear hHeld38r15n2q5
          refine wpAnyH_ready (rs := [5]) (by kernel_rfl) (by simp) (AllReadyH.cons rfl (fun K hK => ?hc38r15n2q6) AllReadyH.nil)
          go_simp
          (go_at_call 60; refine (take_any _ _ _ _ hB5).mono ?_; rintro e w6 ⟨⟨vv, rfl⟩, hB6, hg6⟩; (try dsimp only))
          refine hK.out _ _ ?hs38r15n2q6 (fun hHeld38r15n2q6 => ?ht38r15n2q6)
          case hs38r15n2q6 => ((try dsimp only); (first | exact hHeld.below hb5 | exact hHeld.trans (Turned.of_grown hg6 rfl)))
          clear hHeld hK
          have hHeld := hHeld38r15n2q6
          clear hHeld38r15n2q6
          refine wpAnyH_done (by kernel_rfl) ?_ _
          clear hHeld
          refine NoPanic.normal ?_
          have hT6 : Turned (fun b => b = W1.heap.size + 1) W4 w6 := ((Turned.refl (fun b => b = W1.heap.size + 1) W4).drew.drew.below hb5).trans (Turned.of_grown hg6 rfl)
          rw [← HI2.out] at hB6
          go_upto_region 16 with (fail)
          refine wp_abs (fun X => Turned (fun b => b = W1.heap.size + 1) W4 X ∧ Boxed X (W1.heap.size + 1) 3 (.int .i64 ini)) ⟨hT6, hB6⟩ ?_
          clear hT6 hB6 hg6 hb5 hB5 hq12' HI2 HC5
        case' neg =>
          rw [decide_eq_false hik]
          have HI2 := hidep (HINI.out.trans (if_neg hik))
          clear hik
          have hq12' : Boxed W4 (W1.heap.size + 1) 3 (.int .i64 ini) := by rw [HI2.out]; exact hq12
          go_upto_region 16 with (fail)
          refine wp_abs (fun X => Turned (fun b => b = W1.heap.size + 1) W4 X ∧ Boxed X (W1.heap.size + 1) 3 (.int .i64 ini)) ⟨(Turned.refl _ _).drew, hq12'⟩ ?_
          clear hq12' HI2 HC5
        case pos =>
          rintro w6 ⟨hT6, hB6⟩
          have hs6 := hT6.size
          have hT16 : Turned (fun b => b = W1.heap.size + 1) W1 w6 := (hT4.mono (fun _ _ h => h.elim)).trans hT6
          have hTr6 : Turned (fun b => b = W1.heap.size + 1) wr w6 := (hT1.mono (fun _ _ h => h.elim)).trans hT16
          have d9 := box1_cell (hTr6.cells hq9 (by omega))
          have d10 := box1_cell (hT16.cells hq10 (by omega))
          go_wp2_with (first
            | (go_at_call 40; refine (others_any i n (k : Nat) _).mono ?_; rintro e w7 ⟨rfl, hO7, hs7, hb7⟩)
            | fail)
          have hfc : Fence.wide.fn 61 := trivial
          have hT7 : Turned (fun b => b = W1.heap.size + 1) W4 w7 := hT6.below hb7
          have hB7 : Boxed w7 (W1.heap.size + 1) 3 (.int .i64 ini) := (hb7.block _ (lt_of_block hB6)).trans hB6
          have hCF0 : cellFold way (needL pl need) i k (othV ([] : List (OthE i n (k : Nat)))) = ini := by
            rw [HINI.out]
            unfold cellFold
            rw [HLI.out]
            rfl
          refine (wpIn_wide (n := 8)).1 ?_
          refine wpIn_rangeFunc_ownG rfl (by omega) (gf := 61) (lb := _) rfl hfc (enters_of Try.func61 (by kernel_rfl) rfl) (others_stops (8 - 1) (by omega) _ i n (k : Nat) (by omega) hn8 (by omega) (by omega) w7 hO7) (fun h k => Kp3.trans h k) (Kp3.putObj (n := w7.heap.size) (by omega)) (Below.refl _ _) (fun _ => rfl)
            (fun pre W => Boxed W (W1.heap.size + 1) 3 (.int .i64 (cellFold way (needL pl need) i k (othV pre))) ∧ Turned (fun b => b = W1.heap.size + 1) w7 W)
            (fun _ _ _ => False)
            (fun st A B row hs hg hr => ⟨hs.1.kept hg (fun e => by have := (hr _ e.symm).1; have := hT7.size; omega), hs.2.own hg (fun r e => (hr r e).1)⟩)
            (fun _ _ _ _ _ hs _ _ => hs)
            ⟨by rw [hCF0]; exact hB7, Turned.refl _ _⟩
            ?a1pos ?assignpos ?bodypos ?donepos ?stoppos
          case assignpos =>
            intro l x W K hK
            gi_wp2
            exact hK
          case stoppos =>
            intro D cd pre W _ _ h _
            exact h.elim
          case bodypos =>
            rintro l pre x W ⟨hbx, hTW7⟩ hlen
            obtain ⟨j, hjm⟩ := x
            obtain ⟨hjn, hjk, hjb⟩ := othersL_mem.1 hjm
            have hjl : j < need.length := by rw [HNN.out]; exact hjn
            obtain ⟨ji, hji, hnij, hlij⟩ := needL_get HNEED.out hjl
            obtain ⟨nb', no', he', _, hncj⟩ := ints_get hnw hjl
            obtain ⟨rfl, rfl⟩ : nb = nb' ∧ no = no' := by simpa using he'
            obtain ⟨pb', po', he2', _, s0, s1, s2, s3, s4, s5⟩ := PlacesAt.at hp hji
            obtain ⟨rfl, rfl⟩ : pb = pb' ∧ po = po' := by simpa using he2'
            clear he' he2'
            rw [hnij] at hncj
            have hpj := lp_ok (needL_ok hok (need := need)) j
            have HLJ := hidep hlij
            rw [hlij] at hpj
            generalize pl[ji] = tq at *
            obtain ⟨y0, y1, y2, y3, y4, y5⟩ := tq
            simp only at s0 s1 s2 s3 s4 s5
            obtain ⟨e, he⟩ : ∃ e, e = i - 2 ^ k := ⟨_, rfl⟩
            have hge := bit_ge HBK.out
            have hpos := Nat.two_pow_pos k
            have hei : e < i := by omega
            have han : bits BinOp.andNot IntKind.i64 ((i : Nat) : Int) (IntKind.i64.wrap (2 ^ min k 64)) = ((e : Nat) : Int) := by rw [he]; exact andNot_bit i (by omega) k (by omega) HBK.out
            have han2 : bits BinOp.andNot IntKind.i64 ((i : Nat) : Int) (IntKind.i64.wrap (2 ^ k)) = ((e : Nat) : Int) := by rw [← han, Nat.min_eq_left (by omega)]
            have hTrW : Turned (fun b => b = W1.heap.size + 1) wr W := (hTr6.below hb7).trans hTW7
            have hT4W : Turned (fun b => b = W1.heap.size + 1) W4 W := hT7.trans hTW7
            have hT1W : Turned (fun b => b = W1.heap.size + 1) W1 W := (hT16.below hb7).trans hTW7
            have hTw_W : Turned (fun b => b = W1.heap.size + 1) w W := (hTww.mono (fun _ _ h => h.elim)).trans hTrW
            have hrow3 := HR3.out.cell (i := e) (by omega)
            rw [if_pos (by omega), if_neg (by omega)] at hrow3
            obtain ⟨hrbl, hrbr⟩ := HDK.out e hei
            have hrbc := hrbr.cell hjn
            have HC7 := hidep (show ∀ X, Turned (fun b => b = W1.heap.size + 1) W X → X.cell? ⟨W1.heap.size + 2, 0, none⟩ = some (.func (.func 60) #[] #[.pointer (some ⟨W1.heap.size + 1, 0, none⟩)]) ∧ X.cell? ⟨w.heap.size + 4, 0, none⟩ = some (.slice (some ⟨w.heap.size + 3, 0, none⟩) N N) ∧ X.cell? ⟨p9, 0, none⟩ = some (.int .i64 (i : Nat)) ∧
                X.cell? ⟨wr.heap.size, 0, none⟩ = some (.int .i64 (k : Nat)) ∧ X.cell? ⟨w.heap.size + 3, e, none⟩ = some (.slice (some ⟨rb e, 0, none⟩) n n) ∧ X.cell? ⟨rb e, j, none⟩ = some (.int .i64 (tabV way (needL pl need) e j)) ∧ X.cell? ⟨w.heap.size, 0, none⟩ = some (.int .i64 way) ∧
                X.cell? ⟨w.heap.size + 1, 0, none⟩ = some (.slice (some ⟨pb, po, none⟩) pl.length c) ∧ X.cell? ⟨w.heap.size + 2, 0, none⟩ = some (.slice (some ⟨nb, no, none⟩) n d) ∧ X.cell? ⟨nb, no + j, none⟩ = some (.int .i64 (ji : Nat)) ∧
                X.cell? ⟨pb, po + ji * 6, none⟩ = some (.int .i64 y0) ∧ X.cell? ⟨pb, po + ji * 6 + 1, none⟩ = some (.int .i64 y1) ∧ X.cell? ⟨pb, po + ji * 6 + 2, none⟩ = some (.int .i64 y2) ∧ X.cell? ⟨pb, po + ji * 6 + 3, none⟩ = some (.int .i64 y3) ∧ X.cell? ⟨pb, po + ji * 6 + 4, none⟩ = some (.int .i64 y4) ∧ X.cell? ⟨pb, po + ji * 6 + 5, none⟩ = some (.int .i64 y5) ∧
                X.heap[W1.heap.size]? = some (.cells #[.int .i64 t0, .int .i64 t1, .int .i64 t2, .int .i64 t3, .int .i64 t4, .int .i64 t5] 26) from fun X hX =>
              have hr := hTrW.trans hX
              have h4 := hT4W.trans hX
              have h1 := hT1W.trans hX
              have hw := hTw_W.trans hX
              ⟨box1_cell (h4.cells hq13 (by omega)), box1_cell (hr.cells hq4 (by omega)), box1_cell (hr.cells hq9 (by omega)), box1_cell (h1.cells hq10 (by omega)), hr.cell hrow3 (by omega), hr.cell hrbc (by omega), box1_cell (hr.cells hq0 (by omega)), box1_cell (hr.cells hq1 (by omega)), box1_cell (hr.cells hq2 (by omega)), hw.cell hncj (by omega), hw.cell s0 (by omega), hw.cell s1 (by omega), hw.cell s2 (by omega), hw.cell s3 (by omega), hw.cell s4 (by omega), hw.cell s5 (by omega), h4.cells hq11 (by omega)⟩)
            have HCJ := hidep (fun X => rcost_any way ⟨y0, y1, y2, y3, y4, y5⟩ ⟨t0, t1, t2, t3, t4, t5⟩ X hpj hpk)
            have hcb1 := costZ_bd (way := way) hpj hpk
            have hcb2 := HTB.out e (by omega) j
            have hwrp : IntKind.i64.wrap (tabV way (needL pl need) e j + costZ way ⟨y0, y1, y2, y3, y4, y5⟩ ⟨t0, t1, t2, t3, t4, t5⟩) = tabV way (needL pl need) e j + costZ way ⟨y0, y1, y2, y3, y4, y5⟩ ⟨t0, t1, t2, t3, t4, t5⟩ := IntWalk.i64_in _ (by omega)
            have he0 : (0 : Int) ≤ (e : Int) := by omega
            have he1 : (e : Int) < (N : Int) := by omega
            have hj0 : (0 : Int) ≤ (j : Int) := by omega
            have hj1 : (j : Int) < (n : Int) := by omega
            have hji0 : (0 : Int) ≤ (ji : Int) := by omega
            have hji1 : (ji : Int) < (pl.length : Int) := by omega
            have HFIN := hidep (show cellFold way (needL pl need) i k (othV (pre ++ [⟨j, hjm⟩])) = takeZ (cellFold way (needL pl need) i k (othV pre)) (tabV way (needL pl need) e j + costZ way ⟨y0, y1, y2, y3, y4, y5⟩ ⟨t0, t1, t2, t3, t4, t5⟩) by
              rw [othV_snoc, cellFold_snoc, HLI.out, HLJ.out, he])
            clear he hge hpos hrow3 hrbc hcb1 hcb2
            gi_wp2
            refine wpIn_region_round (S := (fun X => Turned (fun b => b = W1.heap.size + 1) W X)) (by kernel_rfl) (by kernel_rfl) (by rintro ⟨_, _, h⟩; exact h) ?hS38r18n3 (fun hHeld => ?hR38r18n3)
            case hS38r18n3 => ((try dsimp only); (exact (Turned.refl _ _).drew))
            refine wpAnyH_take (i := 0) (v := ?v38r18n3q1) rfl (by kernel_rfl) (by kernel_rfl) (by kernel_rfl) (fun _ _ _ h => h) (Or.inl ⟨by kernel_rfl, ?hy38r18n3q1⟩) (by assumption) ?hr38r18n3q1
            case hy38r18n3q1 => (intro w hSw; (try dsimp only at hSw); (obtain ⟨c1, c2, c3, c4, c5, c6, c7, c8, c9, c10, c11, c12, c13, c14, c15, c16, c17⟩ := HC7.out w hSw; obtain ⟨g0, g1, g2, g3, g4, g5⟩ := box6_cells c17); first | (go_simp; done) | (go_simp; with_reducible rfl))
            refine wpAnyH_take (i := 1) (v := ?v38r18n3q2) rfl (by kernel_rfl) (by kernel_rfl) (by kernel_rfl) (fun _ _ _ h => h) (Or.inl ⟨by kernel_rfl, ?hy38r18n3q2⟩) (by assumption) ?hr38r18n3q2
            case hy38r18n3q2 => (intro w hSw; (try dsimp only at hSw); (obtain ⟨c1, c2, c3, c4, c5, c6, c7, c8, c9, c10, c11, c12, c13, c14, c15, c16, c17⟩ := HC7.out w hSw; obtain ⟨g0, g1, g2, g3, g4, g5⟩ := box6_cells c17); first | (go_simp; done) | (go_simp; with_reducible rfl))
            refine wpAnyH_take (i := 2) (v := ?v38r18n3q3) rfl (by kernel_rfl) (by kernel_rfl) (by kernel_rfl) (fun _ _ _ h => h) (Or.inl ⟨by kernel_rfl, ?hy38r18n3q3⟩) (by assumption) ?hr38r18n3q3
            case hy38r18n3q3 => (intro w hSw; (try dsimp only at hSw); (obtain ⟨c1, c2, c3, c4, c5, c6, c7, c8, c9, c10, c11, c12, c13, c14, c15, c16, c17⟩ := HC7.out w hSw; obtain ⟨g0, g1, g2, g3, g4, g5⟩ := box6_cells c17); first | (go_simp; done) | (go_simp; with_reducible rfl))
            refine wpAnyH_take (i := 3) (v := ?v38r18n3q4) rfl (by kernel_rfl) (by kernel_rfl) (by kernel_rfl) (fun _ _ _ h => h) (Or.inl ⟨by kernel_rfl, ?hy38r18n3q4⟩) (by assumption) ?hr38r18n3q4
            case hy38r18n3q4 => (intro w hSw; (try dsimp only at hSw); (obtain ⟨c1, c2, c3, c4, c5, c6, c7, c8, c9, c10, c11, c12, c13, c14, c15, c16, c17⟩ := HC7.out w hSw; obtain ⟨g0, g1, g2, g3, g4, g5⟩ := box6_cells c17); first | (go_simp; done) | (go_simp; with_reducible rfl))
            refine wpAnyH_take (i := 4) (v := ?v38r18n3q5) rfl (by kernel_rfl) (by kernel_rfl) (by kernel_rfl) (fun _ _ _ h => h) (Or.inl ⟨by kernel_rfl, ?hy38r18n3q5⟩) (by assumption) ?hr38r18n3q5
            case hy38r18n3q5 => (intro w hSw; (try dsimp only at hSw); (obtain ⟨c1, c2, c3, c4, c5, c6, c7, c8, c9, c10, c11, c12, c13, c14, c15, c16, c17⟩ := HC7.out w hSw; obtain ⟨g0, g1, g2, g3, g4, g5⟩ := box6_cells c17); first | (go_simp; done) | (go_simp; with_reducible rfl))
            refine wpAnyH_take (i := 5) (v := ?v38r18n3q6) rfl (by kernel_rfl) (by kernel_rfl) (by kernel_rfl) (fun _ _ _ h => h) (Or.inl ⟨by kernel_rfl, ?hy38r18n3q6⟩) (by assumption) ?hr38r18n3q6
            case hy38r18n3q6 => (intro w hSw; (try dsimp only at hSw); (obtain ⟨c1, c2, c3, c4, c5, c6, c7, c8, c9, c10, c11, c12, c13, c14, c15, c16, c17⟩ := HC7.out w hSw; obtain ⟨g0, g1, g2, g3, g4, g5⟩ := box6_cells c17); first | (go_simp; done) | (go_simp; with_reducible rfl))
            refine wpAnyH_take (i := 6) (v := ?v38r18n3q7) rfl (by kernel_rfl) (by kernel_rfl) (by kernel_rfl) (fun _ _ _ h => h) (Or.inl ⟨by kernel_rfl, ?hy38r18n3q7⟩) (by assumption) ?hr38r18n3q7
            case hy38r18n3q7 => (intro w hSw; (try dsimp only at hSw); (obtain ⟨c1, c2, c3, c4, c5, c6, c7, c8, c9, c10, c11, c12, c13, c14, c15, c16, c17⟩ := HC7.out w hSw; obtain ⟨g0, g1, g2, g3, g4, g5⟩ := box6_cells c17); first | (go_simp; done) | (go_simp; with_reducible rfl))
            refine wpAnyH_take (i := 7) (v := ?v38r18n3q8) rfl (by kernel_rfl) (by kernel_rfl) (by kernel_rfl) (fun _ _ _ h => h) (Or.inl ⟨by kernel_rfl, ?hy38r18n3q8⟩) (by assumption) ?hr38r18n3q8
            case hy38r18n3q8 => (intro w hSw; (try dsimp only at hSw); (obtain ⟨c1, c2, c3, c4, c5, c6, c7, c8, c9, c10, c11, c12, c13, c14, c15, c16, c17⟩ := HC7.out w hSw; obtain ⟨g0, g1, g2, g3, g4, g5⟩ := box6_cells c17); first | (go_simp; done) | (go_simp; with_reducible rfl))
            refine wpAnyH_take (i := 8) (v := ?v38r18n3q9) rfl (by kernel_rfl) (by kernel_rfl) (by kernel_rfl) (fun _ _ _ h => h) (Or.inl ⟨by kernel_rfl, ?hy38r18n3q9⟩) (by assumption) ?hr38r18n3q9
            case hy38r18n3q9 => (intro w hSw; (try dsimp only at hSw); (obtain ⟨c1, c2, c3, c4, c5, c6, c7, c8, c9, c10, c11, c12, c13, c14, c15, c16, c17⟩ := HC7.out w hSw; obtain ⟨g0, g1, g2, g3, g4, g5⟩ := box6_cells c17); first | (go_simp; done) | (go_simp; with_reducible rfl))
            refine wpAnyH_take (i := 9) (v := ?v38r18n3q10) rfl (by kernel_rfl) (by kernel_rfl) (by kernel_rfl) (fun _ _ _ h => h) (Or.inl ⟨by kernel_rfl, ?hy38r18n3q10⟩) (by assumption) ?hr38r18n3q10
            case hy38r18n3q10 => (intro w hSw; (try dsimp only at hSw); (obtain ⟨c1, c2, c3, c4, c5, c6, c7, c8, c9, c10, c11, c12, c13, c14, c15, c16, c17⟩ := HC7.out w hSw; obtain ⟨g0, g1, g2, g3, g4, g5⟩ := box6_cells c17); first | (go_simp; done) | (go_simp; with_reducible rfl))
            refine wpAnyH_take (i := 10) (v := ?v38r18n3q11) rfl (by kernel_rfl) (by kernel_rfl) (by kernel_rfl) (fun _ _ _ h => h) (Or.inl ⟨by kernel_rfl, ?hy38r18n3q11⟩) (by assumption) ?hr38r18n3q11
            case hy38r18n3q11 => (intro w hSw; (try dsimp only at hSw); (obtain ⟨c1, c2, c3, c4, c5, c6, c7, c8, c9, c10, c11, c12, c13, c14, c15, c16, c17⟩ := HC7.out w hSw; obtain ⟨g0, g1, g2, g3, g4, g5⟩ := box6_cells c17); first | (go_simp; done) | (go_simp; with_reducible rfl))
            refine wpAnyH_take (i := 11) (v := ?v38r18n3q12) rfl (by kernel_rfl) (by kernel_rfl) (by kernel_rfl) (fun _ _ _ h => h) (Or.inl ⟨by kernel_rfl, ?hy38r18n3q12⟩) (by assumption) ?hr38r18n3q12
            case hy38r18n3q12 => (intro w hSw; (try dsimp only at hSw); (obtain ⟨c1, c2, c3, c4, c5, c6, c7, c8, c9, c10, c11, c12, c13, c14, c15, c16, c17⟩ := HC7.out w hSw; obtain ⟨g0, g1, g2, g3, g4, g5⟩ := box6_cells c17); first | (go_simp; done) | (go_simp; with_reducible rfl))
            refine wpAnyH_take (i := 12) (v := ?v38r18n3q13) rfl (by kernel_rfl) (by kernel_rfl) (by kernel_rfl) (fun _ _ _ h => h) (Or.inl ⟨by kernel_rfl, ?hy38r18n3q13⟩) (by assumption) ?hr38r18n3q13
            case hy38r18n3q13 => (intro w hSw; (try dsimp only at hSw); (obtain ⟨c1, c2, c3, c4, c5, c6, c7, c8, c9, c10, c11, c12, c13, c14, c15, c16, c17⟩ := HC7.out w hSw; obtain ⟨g0, g1, g2, g3, g4, g5⟩ := box6_cells c17); first | (go_simp; done) | (go_simp; with_reducible rfl))
            refine wpAnyH_take (i := 13) (v := ?v38r18n3q14) rfl (by kernel_rfl) (by kernel_rfl) (by kernel_rfl) (fun _ _ _ h => h) (Or.inl ⟨by kernel_rfl, ?hy38r18n3q14⟩) (by assumption) ?hr38r18n3q14
            case hy38r18n3q14 => (intro w hSw; (try dsimp only at hSw); (obtain ⟨c1, c2, c3, c4, c5, c6, c7, c8, c9, c10, c11, c12, c13, c14, c15, c16, c17⟩ := HC7.out w hSw; obtain ⟨g0, g1, g2, g3, g4, g5⟩ := box6_cells c17); first | (go_simp; done) | (go_simp; with_reducible rfl))
            refine wpAnyH_take (i := 14) (v := ?v38r18n3q15) rfl (by kernel_rfl) (by kernel_rfl) (by kernel_rfl) (fun _ _ _ h => h) (Or.inl ⟨by kernel_rfl, ?hy38r18n3q15⟩) (by assumption) ?hr38r18n3q15
            case hy38r18n3q15 => (intro w hSw; (try dsimp only at hSw); (obtain ⟨c1, c2, c3, c4, c5, c6, c7, c8, c9, c10, c11, c12, c13, c14, c15, c16, c17⟩ := HC7.out w hSw; obtain ⟨g0, g1, g2, g3, g4, g5⟩ := box6_cells c17); first | (go_simp; done) | (go_simp; with_reducible rfl))
            refine wpAnyH_take (i := 15) (v := ?v38r18n3q16) rfl (by kernel_rfl) (by kernel_rfl) (by kernel_rfl) (fun _ _ _ h => h) (Or.inl ⟨by kernel_rfl, ?hy38r18n3q16⟩) (by assumption) ?hr38r18n3q16
            case hy38r18n3q16 => (intro w hSw; (try dsimp only at hSw); (obtain ⟨c1, c2, c3, c4, c5, c6, c7, c8, c9, c10, c11, c12, c13, c14, c15, c16, c17⟩ := HC7.out w hSw; obtain ⟨g0, g1, g2, g3, g4, g5⟩ := box6_cells c17); first | (go_simp; done) | (go_simp; with_reducible rfl))
            refine wpAnyH_take (i := 16) (v := ?v38r18n3q17) rfl (by kernel_rfl) (by kernel_rfl) (by kernel_rfl) (fun _ _ _ h => h) (Or.inl ⟨by kernel_rfl, ?hy38r18n3q17⟩) (by assumption) ?hr38r18n3q17
            case hy38r18n3q17 => (intro w hSw; (try dsimp only at hSw); (obtain ⟨c1, c2, c3, c4, c5, c6, c7, c8, c9, c10, c11, c12, c13, c14, c15, c16, c17⟩ := HC7.out w hSw; obtain ⟨g0, g1, g2, g3, g4, g5⟩ := box6_cells c17); first | (go_simp; done) | (go_simp; with_reducible rfl))
            refine wpAnyH_take (i := 17) (v := ?v38r18n3q18) rfl (by kernel_rfl) (by kernel_rfl) (by kernel_rfl) (fun _ _ _ h => h) (Or.inl ⟨by kernel_rfl, ?hy38r18n3q18⟩) (by assumption) ?hr38r18n3q18
            case hy38r18n3q18 => (intro w hSw; (try dsimp only at hSw); (obtain ⟨c1, c2, c3, c4, c5, c6, c7, c8, c9, c10, c11, c12, c13, c14, c15, c16, c17⟩ := HC7.out w hSw; obtain ⟨g0, g1, g2, g3, g4, g5⟩ := box6_cells c17); first | (go_simp; done) | (go_simp; with_reducible rfl))
            refine wpAnyH_take (i := 18) (v := ?v38r18n3q19) rfl (by kernel_rfl) (by kernel_rfl) (by kernel_rfl) (fun _ _ _ h => h) (Or.inl ⟨by kernel_rfl, ?hy38r18n3q19⟩) (by assumption) ?hr38r18n3q19
            case hy38r18n3q19 => (intro w hSw; (try dsimp only at hSw); (obtain ⟨c1, c2, c3, c4, c5, c6, c7, c8, c9, c10, c11, c12, c13, c14, c15, c16, c17⟩ := HC7.out w hSw; obtain ⟨g0, g1, g2, g3, g4, g5⟩ := box6_cells c17); first | (go_simp; done) | (go_simp; with_reducible rfl))
            refine wpAnyH_take (i := 19) (v := ?v38r18n3q20) rfl (by kernel_rfl) (by kernel_rfl) (by kernel_rfl) (fun _ _ _ h => h) (Or.inl ⟨by kernel_rfl, ?hy38r18n3q20⟩) (by assumption) ?hr38r18n3q20
            case hy38r18n3q20 => (intro w hSw; (try dsimp only at hSw); (obtain ⟨c1, c2, c3, c4, c5, c6, c7, c8, c9, c10, c11, c12, c13, c14, c15, c16, c17⟩ := HC7.out w hSw; obtain ⟨g0, g1, g2, g3, g4, g5⟩ := box6_cells c17); first | (go_simp; done) | (go_simp; with_reducible rfl))
            refine wpAnyH_ready (rs := [20]) (by kernel_rfl) (by simp) (AllReadyH.cons rfl (fun K hK => ?hc38r18n3q21) AllReadyH.nil)
            go_simp
            (go_at_call 12; refine (HCJ.out _).mono ?_; rintro ee w8 ⟨rfl, hb8⟩; (try dsimp only); have hB8 : Boxed w8 (W1.heap.size + 1) 3 (.int .i64 (cellFold way (needL pl need) i k (othV pre))) := (hb8.block _ (lt_of_block hbx)).trans hbx)
            refine hK.out _ _ ?hs38r18n3q21 (fun hHeld38r18n3q21 => ?ht38r18n3q21)
            case hs38r18n3q21 => ((try dsimp only); (first | exact hHeld.below hb8 | exact hHeld.trans (Turned.of_grown hg9 rfl)))
            clear hHeld hK
            have hHeld := hHeld38r18n3q21
            clear hHeld38r18n3q21
            refine wpAnyH_take (i := 21) (v := ?v38r18n3q22) rfl (by kernel_rfl) (by kernel_rfl) (by kernel_rfl) (fun _ _ _ h => h) (Or.inl ⟨by kernel_rfl, ?hy38r18n3q22⟩) (by assumption) ?hr38r18n3q22
            case hy38r18n3q22 => (intro w hSw; (try dsimp only at hSw); (obtain ⟨c1, c2, c3, c4, c5, c6, c7, c8, c9, c10, c11, c12, c13, c14, c15, c16, c17⟩ := HC7.out w hSw; obtain ⟨g0, g1, g2, g3, g4, g5⟩ := box6_cells c17); first | (go_simp; done) | (go_simp; with_reducible rfl))
            refine wpAnyH_ready (rs := [22]) (by kernel_rfl) (by simp) (AllReadyH.cons rfl (fun K hK => ?hc38r18n3q23) AllReadyH.nil)
            go_simp
            (go_at_call 60; refine (take_any _ _ _ _ hB8).mono ?_; rintro ee w9 ⟨⟨vv, rfl⟩, hB9, hg9⟩; (try dsimp only))
            refine hK.out _ _ ?hs38r18n3q23 (fun hHeld38r18n3q23 => ?ht38r18n3q23)
            case hs38r18n3q23 => ((try dsimp only); (first | exact hHeld.below hb8 | exact hHeld.trans (Turned.of_grown hg9 rfl)))
            clear hHeld hK
            have hHeld := hHeld38r18n3q23
            clear hHeld38r18n3q23
            refine wpAnyH_done (by kernel_rfl) ?_ _
            clear hHeld
            have hT9 : Turned (fun b => b = W1.heap.size + 1) W w9 := ((Turned.refl (fun b => b = W1.heap.size + 1) W).drew.below hb8).trans (Turned.of_grown hg9 rfl)
            have HEND : Hid (KeepsFrom w7.heap.size W w9 ∧ Kp3 w6.heap.size W w9) := hidep ⟨hT9.from (fun b hb h => by have := hT7.size; omega), hT9.kp3 (by have := hTW7.size; omega) (fun b h1 h2 h => by omega)⟩
            have HI9 := hidep (show Boxed w9 (W1.heap.size + 1) 3 (.int .i64 (cellFold way (needL pl need) i k (othV (pre ++ [⟨j, hjm⟩])))) ∧ Turned (fun b => b = W1.heap.size + 1) w7 w9 from ⟨by rw [HFIN.out]; exact hB9, hTW7.trans hT9⟩)
            gi_wp2
            exact ⟨HEND.out.1, HEND.out.2, HI9.out.1, HI9.out.2⟩
          case donepos =>
            rintro D ys W hD hys ⟨hbx, hTW7⟩ hK
            have hval : cellFold way (needL pl need) i k (othV ys) = tabV way (needL pl need) i k := by
              rw [hys, tabV_eq way (needL pl need) i k HBK.out, HNL.out, HNN.out]
              rfl
            rw [hval] at hbx
            clear hval
            have hTrW : Turned (fun b => b = W1.heap.size + 1) wr W := (hTr6.below hb7).trans hTW7
            have hT1W : Turned (fun b => b = W1.heap.size + 1) W1 W := (hT16.below hb7).trans hTW7
            have hrow3 := HR3.out.cell (i := i) (by omega)
            rw [if_pos (by omega), if_pos rfl] at hrow3
            have hrowW : W.rowIs g 3 n (fun j => if j < k then .int .i64 (tabV way (needL pl need) i j) else .int .i64 (-1)) := HROW.out.of_block (hTrW.block g hgk (by omega))
            have hgc := hrowW.cell hkn
            have hgf := hrowW.frozen k
            rw [if_neg (Nat.lt_irrefl k)] at hgc
            have HRW := hidep hrowW
            have c1 := box1_cell (hTrW.cells hq4 (by omega))
            have c2 := box1_cell (hTrW.cells hq9 (by omega))
            have c3 := box1_cell (hT1W.cells hq10 (by omega))
            have c4' := hTrW.cell hrow3 (by omega)
            have c5 := hbx.cell
            have HC9 := hidep (show ∀ X, Turned (fun b => b = g) W X → X.cell? ⟨w.heap.size + 4, 0, none⟩ = some (.slice (some ⟨w.heap.size + 3, 0, none⟩) N N) ∧ X.cell? ⟨p9, 0, none⟩ = some (.int .i64 (i : Nat)) ∧ X.cell? ⟨w.heap.size + 3, i, none⟩ = some (.slice (some ⟨g, 0, none⟩) n n) ∧
                X.cell? ⟨wr.heap.size, 0, none⟩ = some (.int .i64 (k : Nat)) ∧ X.cell? ⟨W1.heap.size + 1, 0, none⟩ = some (.int .i64 (tabV way (needL pl need) i k)) from fun X hX => ⟨hX.cell c1 (by omega), hX.cell c2 (by omega), hX.cell c4' (by omega), hX.cell c3 (by omega), hX.cell c5 (by omega)⟩)
            have HT7 := hidep (show Turned (fun b => b = W1.heap.size + 1) wr w7 from hTr6.below hb7)
            have HTF := hidep (show Turned (fun b => b = g ∨ b = W1.heap.size + 1) Wm W from (hTk.mono (T' := fun b => b = g ∨ b = W1.heap.size + 1) (fun _ _ h => .inl h)).trans (hTrW.mono (fun _ _ h => .inr h)))
            have HKB := hidep hK
            have hDg : g < D := by have := hT7.size; omega
            have h12w : wr.heap.size ≤ W1.heap.size + 1 := by omega
            have h12m : Wm.heap.size ≤ W1.heap.size + 1 := by omega
            have hw7D : w.heap.size + 5 ≤ D := by have := hT7.size; omega
            dsimp only [Exit.inBlock, Exit.then]
            apply_assumption
            go_upto_region 19 with (fail)
            refine wp_region_noPanic (wp_region_held_drew (S := (fun X => Turned (fun b => b = g) W X)) (by kernel_rfl) ?hS38r19n4 (fun hHeld => ?hR38r19n4))
            case hS38r19n4 => ((try dsimp only); (exact (Turned.refl _ _).drew))
            refine wpAnyH_take (i := 0) (v := ?v38r19n4q1) rfl (by kernel_rfl) (by kernel_rfl) (by kernel_rfl) (fun _ _ _ h => h) (Or.inl ⟨by kernel_rfl, ?hy38r19n4q1⟩) (by assumption) ?hr38r19n4q1
            case hy38r19n4q1 => (intro w hSw; (try dsimp only at hSw); (obtain ⟨c1, c2, c3, c4, c5⟩ := HC9.out w hSw); first | (go_simp; done) | (go_simp; with_reducible rfl))
            refine wpAnyH_take (i := 1) (v := ?v38r19n4q2) rfl (by kernel_rfl) (by kernel_rfl) (by kernel_rfl) (fun _ _ _ h => h) (Or.inl ⟨by kernel_rfl, ?hy38r19n4q2⟩) (by assumption) ?hr38r19n4q2
            case hy38r19n4q2 => (intro w hSw; (try dsimp only at hSw); (obtain ⟨c1, c2, c3, c4, c5⟩ := HC9.out w hSw); first | (go_simp; done) | (go_simp; with_reducible rfl))
            refine wpAnyH_take (i := 2) (v := ?v38r19n4q3) rfl (by kernel_rfl) (by kernel_rfl) (by kernel_rfl) (fun _ _ _ h => h) (Or.inl ⟨by kernel_rfl, ?hy38r19n4q3⟩) (by assumption) ?hr38r19n4q3
            case hy38r19n4q3 => (intro w hSw; (try dsimp only at hSw); (obtain ⟨c1, c2, c3, c4, c5⟩ := HC9.out w hSw); first | (go_simp; done) | (go_simp; with_reducible rfl))
            refine wpAnyH_take (i := 3) (v := ?v38r19n4q4) rfl (by kernel_rfl) (by kernel_rfl) (by kernel_rfl) (fun _ _ _ h => h) (Or.inl ⟨by kernel_rfl, ?hy38r19n4q4⟩) (by assumption) ?hr38r19n4q4
            case hy38r19n4q4 => (intro w hSw; (try dsimp only at hSw); (obtain ⟨c1, c2, c3, c4, c5⟩ := HC9.out w hSw); first | (go_simp; done) | (go_simp; with_reducible rfl))
            refine wpAnyH_take (i := 4) (v := ?v38r19n4q5) rfl (by kernel_rfl) (by kernel_rfl) (by kernel_rfl) (fun _ _ _ h => h) (Or.inl ⟨by kernel_rfl, ?hy38r19n4q5⟩) (by assumption) ?hr38r19n4q5
            case hy38r19n4q5 => (intro w hSw; (try dsimp only at hSw); (obtain ⟨c1, c2, c3, c4, c5⟩ := HC9.out w hSw); first | (go_simp; done) | (go_simp; with_reducible rfl))
            refine wpAnyH_take (i := 5) (v := ?v38r19n4q6) rfl (by kernel_rfl) (by kernel_rfl) (by kernel_rfl) (fun _ _ _ h => h) (Or.inl ⟨by kernel_rfl, ?hy38r19n4q6⟩) (by assumption) ?hr38r19n4q6
            case hy38r19n4q6 => (intro w hSw; (try dsimp only at hSw); (obtain ⟨c1, c2, c3, c4, c5⟩ := HC9.out w hSw); first | (go_simp; done) | (go_simp; with_reducible rfl))
            refine wpAnyH_take (i := 6) (v := ?v38r19n4q7) rfl (by kernel_rfl) (by kernel_rfl) (by kernel_rfl) (fun _ _ _ h => h) (Or.inl ⟨by kernel_rfl, ?hy38r19n4q7⟩) (by assumption) ?hr38r19n4q7
            case hy38r19n4q7 => (intro w hSw; (try dsimp only at hSw); (obtain ⟨c1, c2, c3, c4, c5⟩ := HC9.out w hSw); first | (go_simp; done) | (go_simp; with_reducible rfl))
            refine wpAnyH_ready (rs := [7]) (by kernel_rfl) (by simp) (AllReadyH.cons rfl (fun K hK => ?hc38r19n4q8) AllReadyH.nil)
            go_simp
            refine hK.out _ _ ?hs38r19n4q8 (fun hHeld38r19n4q8 => ?ht38r19n4q8)
            case hs38r19n4q8 => ((try dsimp only); (first | exact hHeld.setCell _ _ (.inr rfl) | exact (Turned.refl _ _).drew.setCell _ _ (.inr rfl) | exact ((Turned.refl _ _).setCell _ _ (.inr rfl)).drew))
            clear hHeld hK
            have hHeld := hHeld38r19n4q8
            clear hHeld38r19n4q8
            refine wpAnyH_done (by kernel_rfl) ?_ _
            clear hHeld
            refine NoPanic.normal ?_
            go_wp2
            obtain ⟨Z, hZ⟩ : ∃ Z, Z = (W.setCell ⟨g, k, none⟩ (.int .i64 (tabV way (needL pl need) i k))).drew := ⟨_, rfl⟩
            rw [← hZ]
            have hTZ : Turned (fun b => b = g) W Z := by rw [hZ]; exact ((Turned.refl (fun b => b = g) W).setCell ⟨g, k, none⟩ _ (.inr rfl)).drew
            have hKZ : Z.heap[D]? = some (.deferred (some [])) := hTZ.cells HKB.out (by omega)
            have hk7 : KeepsM wr w7 := HT7.out.keepsM (fun b hb => by subst hb; rw [Array.getElem?_eq_none h12w]; simp)
            have hkW : KeepsM w7 W := hTW7.keepsM (fun b hb => by subst hb; rw [show w7.heap[W1.heap.size + 1]? = _ from hB7]; simp)
            have hkZ : KeepsM W Z := hTZ.keepsM (fun b hb => by subst hb; obtain ⟨cc, hcc, _⟩ := HRW.out; rw [hcc]; simp)
            refine ⟨LoopI.mk rfl ⟨rfl, rfl, rfl, rfl, rfl, rfl, rfl, rfl, rfl, k + 1, by omega, by show Value.int _ _ = _; go_num, ?_, (HMK2.out.kept hk7).cons (hkW.trans hkZ) hw7D hD hKZ, ?_⟩, ?_⟩
            · exact (HTF.out.trans (hTZ.mono (fun _ _ h => .inl h))).mono (fun b hb h => by rcases h with h | h; exact h; omega)
            · rw [hZ]
              refine (World.rowIs.set HRW.out k _).congr (fun j hj => ?_)
              by_cases hjk : j = k
              · subst hjk; rw [if_pos rfl, if_pos (by omega)]
              · rw [if_neg hjk]
                by_cases hj2 : j < k
                · rw [if_pos hj2, if_pos (by omega)]
                · rw [if_neg hj2, if_neg (by omega)]
            · show n - _ < n - _
              simp [intOf]; omega
        case neg =>
          rintro w6 ⟨hT6, hB6⟩
          have hs6 := hT6.size
          have hT16 : Turned (fun b => b = W1.heap.size + 1) W1 w6 := (hT4.mono (fun _ _ h => h.elim)).trans hT6
          have hTr6 : Turned (fun b => b = W1.heap.size + 1) wr w6 := (hT1.mono (fun _ _ h => h.elim)).trans hT16
          have d9 := box1_cell (hTr6.cells hq9 (by omega))
          have d10 := box1_cell (hT16.cells hq10 (by omega))
          go_wp2_with (first
            | (go_at_call 40; refine (others_any i n (k : Nat) _).mono ?_; rintro e w7 ⟨rfl, hO7, hs7, hb7⟩)
            | fail)
          have hfc : Fence.wide.fn 61 := trivial
          have hT7 : Turned (fun b => b = W1.heap.size + 1) W4 w7 := hT6.below hb7
          have hB7 : Boxed w7 (W1.heap.size + 1) 3 (.int .i64 ini) := (hb7.block _ (lt_of_block hB6)).trans hB6
          have hCF0 : cellFold way (needL pl need) i k (othV ([] : List (OthE i n (k : Nat)))) = ini := by
            rw [HINI.out]
            unfold cellFold
            rw [HLI.out]
            rfl
          refine (wpIn_wide (n := 8)).1 ?_
          refine wpIn_rangeFunc_ownG rfl (by omega) (gf := 61) (lb := _) rfl hfc (enters_of Try.func61 (by kernel_rfl) rfl) (others_stops (8 - 1) (by omega) _ i n (k : Nat) (by omega) hn8 (by omega) (by omega) w7 hO7) (fun h k => Kp3.trans h k) (Kp3.putObj (n := w7.heap.size) (by omega)) (Below.refl _ _) (fun _ => rfl)
            (fun pre W => Boxed W (W1.heap.size + 1) 3 (.int .i64 (cellFold way (needL pl need) i k (othV pre))) ∧ Turned (fun b => b = W1.heap.size + 1) w7 W)
            (fun _ _ _ => False)
            (fun st A B row hs hg hr => ⟨hs.1.kept hg (fun e => by have := (hr _ e.symm).1; have := hT7.size; omega), hs.2.own hg (fun r e => (hr r e).1)⟩)
            (fun _ _ _ _ _ hs _ _ => hs)
            ⟨by rw [hCF0]; exact hB7, Turned.refl _ _⟩
            ?a1neg ?assignneg ?bodyneg ?doneneg ?stopneg
          case assignneg =>
            intro l x W K hK
            gi_wp2
            exact hK
          case stopneg =>
            intro D cd pre W _ _ h _
            exact h.elim
          case bodyneg =>
            rintro l pre x W ⟨hbx, hTW7⟩ hlen
            obtain ⟨j, hjm⟩ := x
            obtain ⟨hjn, hjk, hjb⟩ := othersL_mem.1 hjm
            have hjl : j < need.length := by rw [HNN.out]; exact hjn
            obtain ⟨ji, hji, hnij, hlij⟩ := needL_get HNEED.out hjl
            obtain ⟨nb', no', he', _, hncj⟩ := ints_get hnw hjl
            obtain ⟨rfl, rfl⟩ : nb = nb' ∧ no = no' := by simpa using he'
            obtain ⟨pb', po', he2', _, s0, s1, s2, s3, s4, s5⟩ := PlacesAt.at hp hji
            obtain ⟨rfl, rfl⟩ : pb = pb' ∧ po = po' := by simpa using he2'
            clear he' he2'
            rw [hnij] at hncj
            have hpj := lp_ok (needL_ok hok (need := need)) j
            have HLJ := hidep hlij
            rw [hlij] at hpj
            generalize pl[ji] = tq at *
            obtain ⟨y0, y1, y2, y3, y4, y5⟩ := tq
            simp only at s0 s1 s2 s3 s4 s5
            obtain ⟨e, he⟩ : ∃ e, e = i - 2 ^ k := ⟨_, rfl⟩
            have hge := bit_ge HBK.out
            have hpos := Nat.two_pow_pos k
            have hei : e < i := by omega
            have han : bits BinOp.andNot IntKind.i64 ((i : Nat) : Int) (IntKind.i64.wrap (2 ^ min k 64)) = ((e : Nat) : Int) := by rw [he]; exact andNot_bit i (by omega) k (by omega) HBK.out
            have han2 : bits BinOp.andNot IntKind.i64 ((i : Nat) : Int) (IntKind.i64.wrap (2 ^ k)) = ((e : Nat) : Int) := by rw [← han, Nat.min_eq_left (by omega)]
            have hTrW : Turned (fun b => b = W1.heap.size + 1) wr W := (hTr6.below hb7).trans hTW7
            have hT4W : Turned (fun b => b = W1.heap.size + 1) W4 W := hT7.trans hTW7
            have hT1W : Turned (fun b => b = W1.heap.size + 1) W1 W := (hT16.below hb7).trans hTW7
            have hTw_W : Turned (fun b => b = W1.heap.size + 1) w W := (hTww.mono (fun _ _ h => h.elim)).trans hTrW
            have hrow3 := HR3.out.cell (i := e) (by omega)
            rw [if_pos (by omega), if_neg (by omega)] at hrow3
            obtain ⟨hrbl, hrbr⟩ := HDK.out e hei
            have hrbc := hrbr.cell hjn
            have HC7 := hidep (show ∀ X, Turned (fun b => b = W1.heap.size + 1) W X → X.cell? ⟨W1.heap.size + 2, 0, none⟩ = some (.func (.func 60) #[] #[.pointer (some ⟨W1.heap.size + 1, 0, none⟩)]) ∧ X.cell? ⟨w.heap.size + 4, 0, none⟩ = some (.slice (some ⟨w.heap.size + 3, 0, none⟩) N N) ∧ X.cell? ⟨p9, 0, none⟩ = some (.int .i64 (i : Nat)) ∧
                X.cell? ⟨wr.heap.size, 0, none⟩ = some (.int .i64 (k : Nat)) ∧ X.cell? ⟨w.heap.size + 3, e, none⟩ = some (.slice (some ⟨rb e, 0, none⟩) n n) ∧ X.cell? ⟨rb e, j, none⟩ = some (.int .i64 (tabV way (needL pl need) e j)) ∧ X.cell? ⟨w.heap.size, 0, none⟩ = some (.int .i64 way) ∧
                X.cell? ⟨w.heap.size + 1, 0, none⟩ = some (.slice (some ⟨pb, po, none⟩) pl.length c) ∧ X.cell? ⟨w.heap.size + 2, 0, none⟩ = some (.slice (some ⟨nb, no, none⟩) n d) ∧ X.cell? ⟨nb, no + j, none⟩ = some (.int .i64 (ji : Nat)) ∧
                X.cell? ⟨pb, po + ji * 6, none⟩ = some (.int .i64 y0) ∧ X.cell? ⟨pb, po + ji * 6 + 1, none⟩ = some (.int .i64 y1) ∧ X.cell? ⟨pb, po + ji * 6 + 2, none⟩ = some (.int .i64 y2) ∧ X.cell? ⟨pb, po + ji * 6 + 3, none⟩ = some (.int .i64 y3) ∧ X.cell? ⟨pb, po + ji * 6 + 4, none⟩ = some (.int .i64 y4) ∧ X.cell? ⟨pb, po + ji * 6 + 5, none⟩ = some (.int .i64 y5) ∧
                X.heap[W1.heap.size]? = some (.cells #[.int .i64 t0, .int .i64 t1, .int .i64 t2, .int .i64 t3, .int .i64 t4, .int .i64 t5] 26) from fun X hX =>
              have hr := hTrW.trans hX
              have h4 := hT4W.trans hX
              have h1 := hT1W.trans hX
              have hw := hTw_W.trans hX
              ⟨box1_cell (h4.cells hq13 (by omega)), box1_cell (hr.cells hq4 (by omega)), box1_cell (hr.cells hq9 (by omega)), box1_cell (h1.cells hq10 (by omega)), hr.cell hrow3 (by omega), hr.cell hrbc (by omega), box1_cell (hr.cells hq0 (by omega)), box1_cell (hr.cells hq1 (by omega)), box1_cell (hr.cells hq2 (by omega)), hw.cell hncj (by omega), hw.cell s0 (by omega), hw.cell s1 (by omega), hw.cell s2 (by omega), hw.cell s3 (by omega), hw.cell s4 (by omega), hw.cell s5 (by omega), h4.cells hq11 (by omega)⟩)
            have HCJ := hidep (fun X => rcost_any way ⟨y0, y1, y2, y3, y4, y5⟩ ⟨t0, t1, t2, t3, t4, t5⟩ X hpj hpk)
            have hcb1 := costZ_bd (way := way) hpj hpk
            have hcb2 := HTB.out e (by omega) j
            have hwrp : IntKind.i64.wrap (tabV way (needL pl need) e j + costZ way ⟨y0, y1, y2, y3, y4, y5⟩ ⟨t0, t1, t2, t3, t4, t5⟩) = tabV way (needL pl need) e j + costZ way ⟨y0, y1, y2, y3, y4, y5⟩ ⟨t0, t1, t2, t3, t4, t5⟩ := IntWalk.i64_in _ (by omega)
            have he0 : (0 : Int) ≤ (e : Int) := by omega
            have he1 : (e : Int) < (N : Int) := by omega
            have hj0 : (0 : Int) ≤ (j : Int) := by omega
            have hj1 : (j : Int) < (n : Int) := by omega
            have hji0 : (0 : Int) ≤ (ji : Int) := by omega
            have hji1 : (ji : Int) < (pl.length : Int) := by omega
            have HFIN := hidep (show cellFold way (needL pl need) i k (othV (pre ++ [⟨j, hjm⟩])) = takeZ (cellFold way (needL pl need) i k (othV pre)) (tabV way (needL pl need) e j + costZ way ⟨y0, y1, y2, y3, y4, y5⟩ ⟨t0, t1, t2, t3, t4, t5⟩) by
              rw [othV_snoc, cellFold_snoc, HLI.out, HLJ.out, he])
            clear he hge hpos hrow3 hrbc hcb1 hcb2
            gi_wp2
            refine wpIn_region_round (S := (fun X => Turned (fun b => b = W1.heap.size + 1) W X)) (by kernel_rfl) (by kernel_rfl) (by rintro ⟨_, _, h⟩; exact h) ?hS38r18n5 (fun hHeld => ?hR38r18n5)
            case hS38r18n5 => ((try dsimp only); (exact (Turned.refl _ _).drew))
            refine wpAnyH_take (i := 0) (v := ?v38r18n5q1) rfl (by kernel_rfl) (by kernel_rfl) (by kernel_rfl) (fun _ _ _ h => h) (Or.inl ⟨by kernel_rfl, ?hy38r18n5q1⟩) (by assumption) ?hr38r18n5q1
            case hy38r18n5q1 => (intro w hSw; (try dsimp only at hSw); (obtain ⟨c1, c2, c3, c4, c5, c6, c7, c8, c9, c10, c11, c12, c13, c14, c15, c16, c17⟩ := HC7.out w hSw; obtain ⟨g0, g1, g2, g3, g4, g5⟩ := box6_cells c17); first | (go_simp; done) | (go_simp; with_reducible rfl))
            refine wpAnyH_take (i := 1) (v := ?v38r18n5q2) rfl (by kernel_rfl) (by kernel_rfl) (by kernel_rfl) (fun _ _ _ h => h) (Or.inl ⟨by kernel_rfl, ?hy38r18n5q2⟩) (by assumption) ?hr38r18n5q2
            case hy38r18n5q2 => (intro w hSw; (try dsimp only at hSw); (obtain ⟨c1, c2, c3, c4, c5, c6, c7, c8, c9, c10, c11, c12, c13, c14, c15, c16, c17⟩ := HC7.out w hSw; obtain ⟨g0, g1, g2, g3, g4, g5⟩ := box6_cells c17); first | (go_simp; done) | (go_simp; with_reducible rfl))
            refine wpAnyH_take (i := 2) (v := ?v38r18n5q3) rfl (by kernel_rfl) (by kernel_rfl) (by kernel_rfl) (fun _ _ _ h => h) (Or.inl ⟨by kernel_rfl, ?hy38r18n5q3⟩) (by assumption) ?hr38r18n5q3
            case hy38r18n5q3 => (intro w hSw; (try dsimp only at hSw); (obtain ⟨c1, c2, c3, c4, c5, c6, c7, c8, c9, c10, c11, c12, c13, c14, c15, c16, c17⟩ := HC7.out w hSw; obtain ⟨g0, g1, g2, g3, g4, g5⟩ := box6_cells c17); first | (go_simp; done) | (go_simp; with_reducible rfl))
            refine wpAnyH_take (i := 3) (v := ?v38r18n5q4) rfl (by kernel_rfl) (by kernel_rfl) (by kernel_rfl) (fun _ _ _ h => h) (Or.inl ⟨by kernel_rfl, ?hy38r18n5q4⟩) (by assumption) ?hr38r18n5q4
            case hy38r18n5q4 => (intro w hSw; (try dsimp only at hSw); (obtain ⟨c1, c2, c3, c4, c5, c6, c7, c8, c9, c10, c11, c12, c13, c14, c15, c16, c17⟩ := HC7.out w hSw; obtain ⟨g0, g1, g2, g3, g4, g5⟩ := box6_cells c17); first | (go_simp; done) | (go_simp; with_reducible rfl))
            refine wpAnyH_take (i := 4) (v := ?v38r18n5q5) rfl (by kernel_rfl) (by kernel_rfl) (by kernel_rfl) (fun _ _ _ h => h) (Or.inl ⟨by kernel_rfl, ?hy38r18n5q5⟩) (by assumption) ?hr38r18n5q5
            case hy38r18n5q5 => (intro w hSw; (try dsimp only at hSw); (obtain ⟨c1, c2, c3, c4, c5, c6, c7, c8, c9, c10, c11, c12, c13, c14, c15, c16, c17⟩ := HC7.out w hSw; obtain ⟨g0, g1, g2, g3, g4, g5⟩ := box6_cells c17); first | (go_simp; done) | (go_simp; with_reducible rfl))
            refine wpAnyH_take (i := 5) (v := ?v38r18n5q6) rfl (by kernel_rfl) (by kernel_rfl) (by kernel_rfl) (fun _ _ _ h => h) (Or.inl ⟨by kernel_rfl, ?hy38r18n5q6⟩) (by assumption) ?hr38r18n5q6
            case hy38r18n5q6 => (intro w hSw; (try dsimp only at hSw); (obtain ⟨c1, c2, c3, c4, c5, c6, c7, c8, c9, c10, c11, c12, c13, c14, c15, c16, c17⟩ := HC7.out w hSw; obtain ⟨g0, g1, g2, g3, g4, g5⟩ := box6_cells c17); first | (go_simp; done) | (go_simp; with_reducible rfl))
            refine wpAnyH_take (i := 6) (v := ?v38r18n5q7) rfl (by kernel_rfl) (by kernel_rfl) (by kernel_rfl) (fun _ _ _ h => h) (Or.inl ⟨by kernel_rfl, ?hy38r18n5q7⟩) (by assumption) ?hr38r18n5q7
            case hy38r18n5q7 => (intro w hSw; (try dsimp only at hSw); (obtain ⟨c1, c2, c3, c4, c5, c6, c7, c8, c9, c10, c11, c12, c13, c14, c15, c16, c17⟩ := HC7.out w hSw; obtain ⟨g0, g1, g2, g3, g4, g5⟩ := box6_cells c17); first | (go_simp; done) | (go_simp; with_reducible rfl))
            refine wpAnyH_take (i := 7) (v := ?v38r18n5q8) rfl (by kernel_rfl) (by kernel_rfl) (by kernel_rfl) (fun _ _ _ h => h) (Or.inl ⟨by kernel_rfl, ?hy38r18n5q8⟩) (by assumption) ?hr38r18n5q8
            case hy38r18n5q8 => (intro w hSw; (try dsimp only at hSw); (obtain ⟨c1, c2, c3, c4, c5, c6, c7, c8, c9, c10, c11, c12, c13, c14, c15, c16, c17⟩ := HC7.out w hSw; obtain ⟨g0, g1, g2, g3, g4, g5⟩ := box6_cells c17); first | (go_simp; done) | (go_simp; with_reducible rfl))
            refine wpAnyH_take (i := 8) (v := ?v38r18n5q9) rfl (by kernel_rfl) (by kernel_rfl) (by kernel_rfl) (fun _ _ _ h => h) (Or.inl ⟨by kernel_rfl, ?hy38r18n5q9⟩) (by assumption) ?hr38r18n5q9
            case hy38r18n5q9 => (intro w hSw; (try dsimp only at hSw); (obtain ⟨c1, c2, c3, c4, c5, c6, c7, c8, c9, c10, c11, c12, c13, c14, c15, c16, c17⟩ := HC7.out w hSw; obtain ⟨g0, g1, g2, g3, g4, g5⟩ := box6_cells c17); first | (go_simp; done) | (go_simp; with_reducible rfl))
            refine wpAnyH_take (i := 9) (v := ?v38r18n5q10) rfl (by kernel_rfl) (by kernel_rfl) (by kernel_rfl) (fun _ _ _ h => h) (Or.inl ⟨by kernel_rfl, ?hy38r18n5q10⟩) (by assumption) ?hr38r18n5q10
            case hy38r18n5q10 => (intro w hSw; (try dsimp only at hSw); (obtain ⟨c1, c2, c3, c4, c5, c6, c7, c8, c9, c10, c11, c12, c13, c14, c15, c16, c17⟩ := HC7.out w hSw; obtain ⟨g0, g1, g2, g3, g4, g5⟩ := box6_cells c17); first | (go_simp; done) | (go_simp; with_reducible rfl))
            refine wpAnyH_take (i := 10) (v := ?v38r18n5q11) rfl (by kernel_rfl) (by kernel_rfl) (by kernel_rfl) (fun _ _ _ h => h) (Or.inl ⟨by kernel_rfl, ?hy38r18n5q11⟩) (by assumption) ?hr38r18n5q11
            case hy38r18n5q11 => (intro w hSw; (try dsimp only at hSw); (obtain ⟨c1, c2, c3, c4, c5, c6, c7, c8, c9, c10, c11, c12, c13, c14, c15, c16, c17⟩ := HC7.out w hSw; obtain ⟨g0, g1, g2, g3, g4, g5⟩ := box6_cells c17); first | (go_simp; done) | (go_simp; with_reducible rfl))
            refine wpAnyH_take (i := 11) (v := ?v38r18n5q12) rfl (by kernel_rfl) (by kernel_rfl) (by kernel_rfl) (fun _ _ _ h => h) (Or.inl ⟨by kernel_rfl, ?hy38r18n5q12⟩) (by assumption) ?hr38r18n5q12
            case hy38r18n5q12 => (intro w hSw; (try dsimp only at hSw); (obtain ⟨c1, c2, c3, c4, c5, c6, c7, c8, c9, c10, c11, c12, c13, c14, c15, c16, c17⟩ := HC7.out w hSw; obtain ⟨g0, g1, g2, g3, g4, g5⟩ := box6_cells c17); first | (go_simp; done) | (go_simp; with_reducible rfl))
            refine wpAnyH_take (i := 12) (v := ?v38r18n5q13) rfl (by kernel_rfl) (by kernel_rfl) (by kernel_rfl) (fun _ _ _ h => h) (Or.inl ⟨by kernel_rfl, ?hy38r18n5q13⟩) (by assumption) ?hr38r18n5q13
            case hy38r18n5q13 => (intro w hSw; (try dsimp only at hSw); (obtain ⟨c1, c2, c3, c4, c5, c6, c7, c8, c9, c10, c11, c12, c13, c14, c15, c16, c17⟩ := HC7.out w hSw; obtain ⟨g0, g1, g2, g3, g4, g5⟩ := box6_cells c17); first | (go_simp; done) | (go_simp; with_reducible rfl))
            refine wpAnyH_take (i := 13) (v := ?v38r18n5q14) rfl (by kernel_rfl) (by kernel_rfl) (by kernel_rfl) (fun _ _ _ h => h) (Or.inl ⟨by kernel_rfl, ?hy38r18n5q14⟩) (by assumption) ?hr38r18n5q14
            case hy38r18n5q14 => (intro w hSw; (try dsimp only at hSw); (obtain ⟨c1, c2, c3, c4, c5, c6, c7, c8, c9, c10, c11, c12, c13, c14, c15, c16, c17⟩ := HC7.out w hSw; obtain ⟨g0, g1, g2, g3, g4, g5⟩ := box6_cells c17); first | (go_simp; done) | (go_simp; with_reducible rfl))
            refine wpAnyH_take (i := 14) (v := ?v38r18n5q15) rfl (by kernel_rfl) (by kernel_rfl) (by kernel_rfl) (fun _ _ _ h => h) (Or.inl ⟨by kernel_rfl, ?hy38r18n5q15⟩) (by assumption) ?hr38r18n5q15
            case hy38r18n5q15 => (intro w hSw; (try dsimp only at hSw); (obtain ⟨c1, c2, c3, c4, c5, c6, c7, c8, c9, c10, c11, c12, c13, c14, c15, c16, c17⟩ := HC7.out w hSw; obtain ⟨g0, g1, g2, g3, g4, g5⟩ := box6_cells c17); first | (go_simp; done) | (go_simp; with_reducible rfl))
            refine wpAnyH_take (i := 15) (v := ?v38r18n5q16) rfl (by kernel_rfl) (by kernel_rfl) (by kernel_rfl) (fun _ _ _ h => h) (Or.inl ⟨by kernel_rfl, ?hy38r18n5q16⟩) (by assumption) ?hr38r18n5q16
            case hy38r18n5q16 => (intro w hSw; (try dsimp only at hSw); (obtain ⟨c1, c2, c3, c4, c5, c6, c7, c8, c9, c10, c11, c12, c13, c14, c15, c16, c17⟩ := HC7.out w hSw; obtain ⟨g0, g1, g2, g3, g4, g5⟩ := box6_cells c17); first | (go_simp; done) | (go_simp; with_reducible rfl))
            refine wpAnyH_take (i := 16) (v := ?v38r18n5q17) rfl (by kernel_rfl) (by kernel_rfl) (by kernel_rfl) (fun _ _ _ h => h) (Or.inl ⟨by kernel_rfl, ?hy38r18n5q17⟩) (by assumption) ?hr38r18n5q17
            case hy38r18n5q17 => (intro w hSw; (try dsimp only at hSw); (obtain ⟨c1, c2, c3, c4, c5, c6, c7, c8, c9, c10, c11, c12, c13, c14, c15, c16, c17⟩ := HC7.out w hSw; obtain ⟨g0, g1, g2, g3, g4, g5⟩ := box6_cells c17); first | (go_simp; done) | (go_simp; with_reducible rfl))
            refine wpAnyH_take (i := 17) (v := ?v38r18n5q18) rfl (by kernel_rfl) (by kernel_rfl) (by kernel_rfl) (fun _ _ _ h => h) (Or.inl ⟨by kernel_rfl, ?hy38r18n5q18⟩) (by assumption) ?hr38r18n5q18
            case hy38r18n5q18 => (intro w hSw; (try dsimp only at hSw); (obtain ⟨c1, c2, c3, c4, c5, c6, c7, c8, c9, c10, c11, c12, c13, c14, c15, c16, c17⟩ := HC7.out w hSw; obtain ⟨g0, g1, g2, g3, g4, g5⟩ := box6_cells c17); first | (go_simp; done) | (go_simp; with_reducible rfl))
            refine wpAnyH_take (i := 18) (v := ?v38r18n5q19) rfl (by kernel_rfl) (by kernel_rfl) (by kernel_rfl) (fun _ _ _ h => h) (Or.inl ⟨by kernel_rfl, ?hy38r18n5q19⟩) (by assumption) ?hr38r18n5q19
            case hy38r18n5q19 => (intro w hSw; (try dsimp only at hSw); (obtain ⟨c1, c2, c3, c4, c5, c6, c7, c8, c9, c10, c11, c12, c13, c14, c15, c16, c17⟩ := HC7.out w hSw; obtain ⟨g0, g1, g2, g3, g4, g5⟩ := box6_cells c17); first | (go_simp; done) | (go_simp; with_reducible rfl))
            refine wpAnyH_take (i := 19) (v := ?v38r18n5q20) rfl (by kernel_rfl) (by kernel_rfl) (by kernel_rfl) (fun _ _ _ h => h) (Or.inl ⟨by kernel_rfl, ?hy38r18n5q20⟩) (by assumption) ?hr38r18n5q20
            case hy38r18n5q20 => (intro w hSw; (try dsimp only at hSw); (obtain ⟨c1, c2, c3, c4, c5, c6, c7, c8, c9, c10, c11, c12, c13, c14, c15, c16, c17⟩ := HC7.out w hSw; obtain ⟨g0, g1, g2, g3, g4, g5⟩ := box6_cells c17); first | (go_simp; done) | (go_simp; with_reducible rfl))
            refine wpAnyH_ready (rs := [20]) (by kernel_rfl) (by simp) (AllReadyH.cons rfl (fun K hK => ?hc38r18n5q21) AllReadyH.nil)
            go_simp
            (go_at_call 12; refine (HCJ.out _).mono ?_; rintro ee w8 ⟨rfl, hb8⟩; (try dsimp only); have hB8 : Boxed w8 (W1.heap.size + 1) 3 (.int .i64 (cellFold way (needL pl need) i k (othV pre))) := (hb8.block _ (lt_of_block hbx)).trans hbx)
            refine hK.out _ _ ?hs38r18n5q21 (fun hHeld38r18n5q21 => ?ht38r18n5q21)
            case hs38r18n5q21 => ((try dsimp only); (first | exact hHeld.below hb8 | exact hHeld.trans (Turned.of_grown hg9 rfl)))
            clear hHeld hK
            have hHeld := hHeld38r18n5q21
            clear hHeld38r18n5q21
            refine wpAnyH_take (i := 21) (v := ?v38r18n5q22) rfl (by kernel_rfl) (by kernel_rfl) (by kernel_rfl) (fun _ _ _ h => h) (Or.inl ⟨by kernel_rfl, ?hy38r18n5q22⟩) (by assumption) ?hr38r18n5q22
            case hy38r18n5q22 => (intro w hSw; (try dsimp only at hSw); (obtain ⟨c1, c2, c3, c4, c5, c6, c7, c8, c9, c10, c11, c12, c13, c14, c15, c16, c17⟩ := HC7.out w hSw; obtain ⟨g0, g1, g2, g3, g4, g5⟩ := box6_cells c17); first | (go_simp; done) | (go_simp; with_reducible rfl))
            refine wpAnyH_ready (rs := [22]) (by kernel_rfl) (by simp) (AllReadyH.cons rfl (fun K hK => ?hc38r18n5q23) AllReadyH.nil)
            go_simp
            (go_at_call 60; refine (take_any _ _ _ _ hB8).mono ?_; rintro ee w9 ⟨⟨vv, rfl⟩, hB9, hg9⟩; (try dsimp only))
            refine hK.out _ _ ?hs38r18n5q23 (fun hHeld38r18n5q23 => ?ht38r18n5q23)
            case hs38r18n5q23 => ((try dsimp only); (first | exact hHeld.below hb8 | exact hHeld.trans (Turned.of_grown hg9 rfl)))
            clear hHeld hK
            have hHeld := hHeld38r18n5q23
            clear hHeld38r18n5q23
            refine wpAnyH_done (by kernel_rfl) ?_ _
            clear hHeld
            have hT9 : Turned (fun b => b = W1.heap.size + 1) W w9 := ((Turned.refl (fun b => b = W1.heap.size + 1) W).drew.below hb8).trans (Turned.of_grown hg9 rfl)
            have HEND : Hid (KeepsFrom w7.heap.size W w9 ∧ Kp3 w6.heap.size W w9) := hidep ⟨hT9.from (fun b hb h => by have := hT7.size; omega), hT9.kp3 (by have := hTW7.size; omega) (fun b h1 h2 h => by omega)⟩
            have HI9 := hidep (show Boxed w9 (W1.heap.size + 1) 3 (.int .i64 (cellFold way (needL pl need) i k (othV (pre ++ [⟨j, hjm⟩])))) ∧ Turned (fun b => b = W1.heap.size + 1) w7 w9 from ⟨by rw [HFIN.out]; exact hB9, hTW7.trans hT9⟩)
            gi_wp2
            exact ⟨HEND.out.1, HEND.out.2, HI9.out.1, HI9.out.2⟩
          case doneneg =>
            rintro D ys W hD hys ⟨hbx, hTW7⟩ hK
            have hval : cellFold way (needL pl need) i k (othV ys) = tabV way (needL pl need) i k := by
              rw [hys, tabV_eq way (needL pl need) i k HBK.out, HNL.out, HNN.out]
              rfl
            rw [hval] at hbx
            clear hval
            have hTrW : Turned (fun b => b = W1.heap.size + 1) wr W := (hTr6.below hb7).trans hTW7
            have hT1W : Turned (fun b => b = W1.heap.size + 1) W1 W := (hT16.below hb7).trans hTW7
            have hrow3 := HR3.out.cell (i := i) (by omega)
            rw [if_pos (by omega), if_pos rfl] at hrow3
            have hrowW : W.rowIs g 3 n (fun j => if j < k then .int .i64 (tabV way (needL pl need) i j) else .int .i64 (-1)) := HROW.out.of_block (hTrW.block g hgk (by omega))
            have hgc := hrowW.cell hkn
            have hgf := hrowW.frozen k
            rw [if_neg (Nat.lt_irrefl k)] at hgc
            have HRW := hidep hrowW
            have c1 := box1_cell (hTrW.cells hq4 (by omega))
            have c2 := box1_cell (hTrW.cells hq9 (by omega))
            have c3 := box1_cell (hT1W.cells hq10 (by omega))
            have c4' := hTrW.cell hrow3 (by omega)
            have c5 := hbx.cell
            have HC9 := hidep (show ∀ X, Turned (fun b => b = g) W X → X.cell? ⟨w.heap.size + 4, 0, none⟩ = some (.slice (some ⟨w.heap.size + 3, 0, none⟩) N N) ∧ X.cell? ⟨p9, 0, none⟩ = some (.int .i64 (i : Nat)) ∧ X.cell? ⟨w.heap.size + 3, i, none⟩ = some (.slice (some ⟨g, 0, none⟩) n n) ∧
                X.cell? ⟨wr.heap.size, 0, none⟩ = some (.int .i64 (k : Nat)) ∧ X.cell? ⟨W1.heap.size + 1, 0, none⟩ = some (.int .i64 (tabV way (needL pl need) i k)) from fun X hX => ⟨hX.cell c1 (by omega), hX.cell c2 (by omega), hX.cell c4' (by omega), hX.cell c3 (by omega), hX.cell c5 (by omega)⟩)
            have HT7 := hidep (show Turned (fun b => b = W1.heap.size + 1) wr w7 from hTr6.below hb7)
            have HTF := hidep (show Turned (fun b => b = g ∨ b = W1.heap.size + 1) Wm W from (hTk.mono (T' := fun b => b = g ∨ b = W1.heap.size + 1) (fun _ _ h => .inl h)).trans (hTrW.mono (fun _ _ h => .inr h)))
            have HKB := hidep hK
            have hDg : g < D := by have := hT7.size; omega
            have h12w : wr.heap.size ≤ W1.heap.size + 1 := by omega
            have h12m : Wm.heap.size ≤ W1.heap.size + 1 := by omega
            have hw7D : w.heap.size + 5 ≤ D := by have := hT7.size; omega
            dsimp only [Exit.inBlock, Exit.then]
            apply_assumption
            go_upto_region 19 with (fail)
            refine wp_region_noPanic (wp_region_held_drew (S := (fun X => Turned (fun b => b = g) W X)) (by kernel_rfl) ?hS38r19n6 (fun hHeld => ?hR38r19n6))
            case hS38r19n6 => ((try dsimp only); (exact (Turned.refl _ _).drew))
            refine wpAnyH_take (i := 0) (v := ?v38r19n6q1) rfl (by kernel_rfl) (by kernel_rfl) (by kernel_rfl) (fun _ _ _ h => h) (Or.inl ⟨by kernel_rfl, ?hy38r19n6q1⟩) (by assumption) ?hr38r19n6q1
            case hy38r19n6q1 => (intro w hSw; (try dsimp only at hSw); (obtain ⟨c1, c2, c3, c4, c5⟩ := HC9.out w hSw); first | (go_simp; done) | (go_simp; with_reducible rfl))
            refine wpAnyH_take (i := 1) (v := ?v38r19n6q2) rfl (by kernel_rfl) (by kernel_rfl) (by kernel_rfl) (fun _ _ _ h => h) (Or.inl ⟨by kernel_rfl, ?hy38r19n6q2⟩) (by assumption) ?hr38r19n6q2
            case hy38r19n6q2 => (intro w hSw; (try dsimp only at hSw); (obtain ⟨c1, c2, c3, c4, c5⟩ := HC9.out w hSw); first | (go_simp; done) | (go_simp; with_reducible rfl))
            refine wpAnyH_take (i := 2) (v := ?v38r19n6q3) rfl (by kernel_rfl) (by kernel_rfl) (by kernel_rfl) (fun _ _ _ h => h) (Or.inl ⟨by kernel_rfl, ?hy38r19n6q3⟩) (by assumption) ?hr38r19n6q3
            case hy38r19n6q3 => (intro w hSw; (try dsimp only at hSw); (obtain ⟨c1, c2, c3, c4, c5⟩ := HC9.out w hSw); first | (go_simp; done) | (go_simp; with_reducible rfl))
            refine wpAnyH_take (i := 3) (v := ?v38r19n6q4) rfl (by kernel_rfl) (by kernel_rfl) (by kernel_rfl) (fun _ _ _ h => h) (Or.inl ⟨by kernel_rfl, ?hy38r19n6q4⟩) (by assumption) ?hr38r19n6q4
            case hy38r19n6q4 => (intro w hSw; (try dsimp only at hSw); (obtain ⟨c1, c2, c3, c4, c5⟩ := HC9.out w hSw); first | (go_simp; done) | (go_simp; with_reducible rfl))
            refine wpAnyH_take (i := 4) (v := ?v38r19n6q5) rfl (by kernel_rfl) (by kernel_rfl) (by kernel_rfl) (fun _ _ _ h => h) (Or.inl ⟨by kernel_rfl, ?hy38r19n6q5⟩) (by assumption) ?hr38r19n6q5
            case hy38r19n6q5 => (intro w hSw; (try dsimp only at hSw); (obtain ⟨c1, c2, c3, c4, c5⟩ := HC9.out w hSw); first | (go_simp; done) | (go_simp; with_reducible rfl))
            refine wpAnyH_take (i := 5) (v := ?v38r19n6q6) rfl (by kernel_rfl) (by kernel_rfl) (by kernel_rfl) (fun _ _ _ h => h) (Or.inl ⟨by kernel_rfl, ?hy38r19n6q6⟩) (by assumption) ?hr38r19n6q6
            case hy38r19n6q6 => (intro w hSw; (try dsimp only at hSw); (obtain ⟨c1, c2, c3, c4, c5⟩ := HC9.out w hSw); first | (go_simp; done) | (go_simp; with_reducible rfl))
            refine wpAnyH_take (i := 6) (v := ?v38r19n6q7) rfl (by kernel_rfl) (by kernel_rfl) (by kernel_rfl) (fun _ _ _ h => h) (Or.inl ⟨by kernel_rfl, ?hy38r19n6q7⟩) (by assumption) ?hr38r19n6q7
            case hy38r19n6q7 => (intro w hSw; (try dsimp only at hSw); (obtain ⟨c1, c2, c3, c4, c5⟩ := HC9.out w hSw); first | (go_simp; done) | (go_simp; with_reducible rfl))
            refine wpAnyH_ready (rs := [7]) (by kernel_rfl) (by simp) (AllReadyH.cons rfl (fun K hK => ?hc38r19n6q8) AllReadyH.nil)
            go_simp
            refine hK.out _ _ ?hs38r19n6q8 (fun hHeld38r19n6q8 => ?ht38r19n6q8)
            case hs38r19n6q8 => ((try dsimp only); (first | exact hHeld.setCell _ _ (.inr rfl) | exact (Turned.refl _ _).drew.setCell _ _ (.inr rfl) | exact ((Turned.refl _ _).setCell _ _ (.inr rfl)).drew))
            clear hHeld hK
            have hHeld := hHeld38r19n6q8
            clear hHeld38r19n6q8
            refine wpAnyH_done (by kernel_rfl) ?_ _
            clear hHeld
            refine NoPanic.normal ?_
            go_wp2
            obtain ⟨Z, hZ⟩ : ∃ Z, Z = (W.setCell ⟨g, k, none⟩ (.int .i64 (tabV way (needL pl need) i k))).drew := ⟨_, rfl⟩
            rw [← hZ]
            have hTZ : Turned (fun b => b = g) W Z := by rw [hZ]; exact ((Turned.refl (fun b => b = g) W).setCell ⟨g, k, none⟩ _ (.inr rfl)).drew
            have hKZ : Z.heap[D]? = some (.deferred (some [])) := hTZ.cells HKB.out (by omega)
            have hk7 : KeepsM wr w7 := HT7.out.keepsM (fun b hb => by subst hb; rw [Array.getElem?_eq_none h12w]; simp)
            have hkW : KeepsM w7 W := hTW7.keepsM (fun b hb => by subst hb; rw [show w7.heap[W1.heap.size + 1]? = _ from hB7]; simp)
            have hkZ : KeepsM W Z := hTZ.keepsM (fun b hb => by subst hb; obtain ⟨cc, hcc, _⟩ := HRW.out; rw [hcc]; simp)
            refine ⟨LoopI.mk rfl ⟨rfl, rfl, rfl, rfl, rfl, rfl, rfl, rfl, rfl, k + 1, by omega, by show Value.int _ _ = _; go_num, ?_, (HMK2.out.kept hk7).cons (hkW.trans hkZ) hw7D hD hKZ, ?_⟩, ?_⟩
            · exact (HTF.out.trans (hTZ.mono (fun _ _ h => .inl h))).mono (fun b hb h => by rcases h with h | h; exact h; omega)
            · rw [hZ]
              refine (World.rowIs.set HRW.out k _).congr (fun j hj => ?_)
              by_cases hjk : j = k
              · subst hjk; rw [if_pos rfl, if_pos (by omega)]
              · rw [if_neg hjk]
                by_cases hj2 : j < k
                · rw [if_pos hj2, if_pos (by omega)]
                · rw [if_neg hj2, if_neg (by omega)]
            · show n - _ < n - _
              simp [intOf]; omega
    · have hkN : k = n := by omega
      have HKN := hidep hkN
      have HTK := hidep hTk
      have HTW := hidep hTW
      have HFX := hidep (show Hid (w.heap.size + 4 < p9 ∧ p9 < Wm.heap.size ∧ p9 + 1 < g ∧ W0.heap.size ≤ p9 ∧ g < Wm.heap.size ∧ W0.heap.size = w.heap.size + 5) from ⟨by omega, by omega, by omega, by omega, by omega, by omega⟩)
      have hkn' : (n : Int) ≤ (k : Int) := by omega
      clear hTk hTW hT hmm hsm hgs hgm hn hp hok q0 q1 q2 q4 hrow0 hwb hmk hshl hkN
      go_wp2
      refine ⟨LoopI.mk rfl ⟨rfl, rfl, rfl, rfl, rfl, rfl, i + 1, by omega, by show Value.int _ _ = _; go_num, ?_⟩, ?_⟩
      · obtain ⟨x1, x2, x3, x4, x5, x6⟩ := HFX.out.out
        have hkN := HKN.out
        subst hkN
        refine ⟨((HTW.out.mono (T' := fun b => b = w.heap.size + 3 ∨ b = g) (fun _ _ h => .inl h)).trans (HTK.out.mono (fun _ _ h => .inr h))).mono (fun b hb h => by rcases h with h | h; exact h; omega), HMK2.out, fun j => if j = i then g else rb j, HRM.out.of_block (HTK.out.block _ (by omega) (by omega)), fun j hj => ?_⟩
        by_cases hji : j = i
        · subst hji
          simp only [if_true]
          exact ⟨by omega, HROW.out.congr (fun q hq => by rw [if_pos hq])⟩
        · obtain ⟨y1, y2, y3⟩ := HDM.out j (by omega)
          simp only [if_neg hji]
          exact ⟨y1, y3.of_block (HTK.out.block _ (by omega) (by omega))⟩
      · show N - _ < N - _
        simp [intOf]; omega
  · have hiN : i = N := by omega
    subst hiN
    obtain ⟨hT, hMk, rb, hrows, hdone⟩ := hTS
    have HT := hidep hT
    have HD := hidep hdone
    have HR := hidep hrows
    have HMK := hidep hMk
    have c4 := box1_cell (hT.cells q4 (by omega))
    have hsw := hT.size
    have hszo : W0.heap.size = w.heap.size + 5 := by omega
    have HSZ := hidep hszo
    have HWB := hidep hwb
    have hii : (i : Int) ≤ (i : Int) := by omega
    clear hdone hrows hMk hT hwb hsz hszo hrow0 q0 q1 q2 q4 hmk hshl hn hp hok
    go_wp2
    refine leavesM_marks (lo := w.heap.size + 5) HMK.out (fun w' hc hb => ⟨_, results_tmp rfl _ _ _, _, rfl, ?_, ?_⟩)
    · have hrw : ∀ {bb nn : Nat} {tt : TypeId} {f : Nat → Value}, wr.rowIs bb tt nn f → w'.rowIs bb tt nn f := fun h => by
        obtain ⟨cc, h1, h2, h3⟩ := h
        exact ⟨cc, hc _ _ h1 rfl, h2, h3⟩
      have hLn : (needL pl need).length = n := HNL.out.trans HNN.out
      have htl : (tabL way (needL pl need)).length = i := by unfold tabL; rw [List.length_map, List.length_range, hLn, HN2.out]
      refine ⟨(List.range i).map (fun j => .slice (some ⟨rb j, 0, none⟩) n n), by rw [htl]; simp, ?_, ?_⟩
      · rw [htl]
        exact (rowIs_rd ((hrw HR.out).congr (g := fun j => .slice (some ⟨rb j, 0, none⟩) n n) (fun j hj => by rw [if_pos hj])) (by unfold maxLen; omega)).mono (fun _ h => .inl h)
      · intro j u r hu hr
        rw [List.getElem?_map] at hu
        obtain ⟨j', hj', rfl⟩ := Option.map_eq_some_iff.1 hu
        obtain ⟨hjl, rfl⟩ := List.getElem?_eq_some_iff.1 hj'
        simp only [List.length_range] at hjl
        simp only [List.getElem_range]
        obtain ⟨_, hrj⟩ := HD.out j hjl
        unfold tabL at hr
        rw [List.getElem?_map, List.getElem?_range (by rw [hLn, ← HN2.out]; exact hjl)] at hr
        injection hr with hr
        subst hr
        have hll : (rowL way (needL pl need) j).length = n := by unfold rowL; rw [List.length_map, List.length_range, hLn]
        refine ⟨?_, fun x hx => ?_⟩
        · rw [hll]
          have := (rowIs_rd (hrw hrj) (by unfold maxLen; omega)).mono (T' := TkR) (fun _ h => .inr h)
          have he : (List.range n).map (fun k => Value.int .i64 (tabV way (needL pl need) j k)) = intsC (rowL way (needL pl need) j) := by unfold intsC rowL; rw [hLn, List.map_map]; rfl
          rw [he] at this
          exact this
        · obtain ⟨k, _, rfl⟩ := List.mem_map.1 hx
          have := HTB.out j (by omega) k
          omega
    · have h1 : Below w.heap.size w wr := HWB.out.trans ⟨HT.out.os, HT.out.tape, HT.out.output, HT.out.size, fun b hb => HT.out.block b (by have := HSZ.out; omega) (by omega)⟩
      exact h1.trans (hb.mono (by omega))
end Go.Proofs.Ytfljgcpfmhhgcaa
