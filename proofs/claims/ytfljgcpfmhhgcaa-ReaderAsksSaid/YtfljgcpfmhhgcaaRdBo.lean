/- Contract: the code's bounds. -/
import Derived.Test.YtfljgcpfmhhgcaaRdVb
import Derived.Test.YtfljgcpfmhhgcaaRdBe
namespace Go.Proofs.Ytfljgcpfmhhgcaa
open Go.RowKit Go.Lab
attribute [local go_sem] Oper.semAt_some
theorem range_map95 (f : Nat → Value) : (List.range 95).map f = [f 0, f 1, f 2, f 3, f 4, f 5, f 6, f 7, f 8, f 9, f 10, f 11, f 12, f 13, f 14, f 15, f 16, f 17, f 18, f 19, f 20, f 21, f 22, f 23, f 24, f 25, f 26, f 27, f 28, f 29, f 30, f 31, f 32, f 33, f 34, f 35, f 36, f 37, f 38, f 39, f 40, f 41, f 42, f 43, f 44, f 45, f 46, f 47, f 48, f 49, f 50, f 51, f 52, f 53, f 54, f 55, f 56, f 57, f 58, f 59, f 60, f 61, f 62, f 63, f 64, f 65, f 66, f 67, f 68, f 69, f 70, f 71, f 72, f 73, f 74, f 75, f 76, f 77, f 78, f 79, f 80, f 81, f 82, f 83, f 84, f 85, f 86, f 87, f 88, f 89, f 90, f 91, f 92, f 93, f 94] := rfl
theorem frame95 (t : Array Value) (ds : List Deferred) (h : t.size = 95) : ({ tmps := t, defers := ds } : Act) = { tmps := #[slot t 0, slot t 1, slot t 2, slot t 3, slot t 4, slot t 5, slot t 6, slot t 7, slot t 8, slot t 9, slot t 10, slot t 11, slot t 12, slot t 13, slot t 14, slot t 15, slot t 16, slot t 17, slot t 18, slot t 19, slot t 20, slot t 21, slot t 22, slot t 23, slot t 24, slot t 25, slot t 26, slot t 27, slot t 28, slot t 29, slot t 30, slot t 31, slot t 32, slot t 33, slot t 34, slot t 35, slot t 36, slot t 37, slot t 38, slot t 39, slot t 40, slot t 41, slot t 42, slot t 43, slot t 44, slot t 45, slot t 46, slot t 47, slot t 48, slot t 49, slot t 50, slot t 51, slot t 52, slot t 53, slot t 54, slot t 55, slot t 56, slot t 57, slot t 58, slot t 59, slot t 60, slot t 61, slot t 62, slot t 63, slot t 64, slot t 65, slot t 66, slot t 67, slot t 68, slot t 69, slot t 70, slot t 71, slot t 72, slot t 73, slot t 74, slot t 75, slot t 76, slot t 77, slot t 78, slot t 79, slot t 80, slot t 81, slot t 82, slot t 83, slot t 84, slot t 85, slot t 86, slot t 87, slot t 88, slot t 89, slot t 90, slot t 91, slot t 92, slot t 93, slot t 94], defers := ds } := by
  have e : t = ((List.range 95).map (slot t)).toArray := by
    apply Array.ext
    · simp [h]
    · intro i h1 h2
      simp [slot, Array.getD, h1]
  rw [range_map95] at e
  exact congrArg (fun x => ({ tmps := x, defers := ds } : Act)) e
def cellT (t : List (List Int)) (s k : Nat) : Int := (t.getD s []).getD k 0
/-- One place of a table is no greater than it may be. -/
def okK (way : Int) (L : List Pl) (t : List (List Int)) (s k : Nat) : Bool :=
  !(decide (s = 2 ^ k) && decide (costZ way pl0 (lp L k) < cellT t s k)) && (othersL s L.length (k : Nat)).all fun j => !decide (cellT t (s - 2 ^ k) j + costZ way (lp L j) (lp L k) < cellT t s k)
def boundsZ (way : Int) (L : List Pl) (t : List (List Int)) : Bool :=
  decide (t.length = 2 ^ L.length) && (!(t.any fun r => !decide (r.length = L.length)) && (List.range (2 ^ L.length)).all fun s => (othersL s L.length (-1)).all fun k => okK way L t s k)
theorem results_cell1 {fn : Func} {p : Tmp} {t1 : TypeId} (h : fn.results = #[.cell p t1]) (tmps : Array Value) (P : Program) (w : World) {b1 : Addr} {v1 : Value}
    (e1 : tmps.getD p undef = .pointer (some b1)) (l1 : (loadVar t1 b1).run P w = .ok v1 w) : (results fn tmps).run P w = .ok v1 w := by
  have e1' : tmps[p]?.getD undef = .pointer (some b1) := by simpa using e1
  simp only [results, h]
  simp [e1', l1, asAddr]
theorem wp_cutA {P : Program} {c : Code} {Q : Exit → Act → World → Prop} {a : Act} {w : World} (N : Nat) (R : Array Value → List Deferred → Prop) (hs : a.tmps.size = N) (hR : R a.tmps a.defers) (k : ∀ t ds, t.size = N → R t ds → c.wp P Q { tmps := t, defers := ds } w) : c.wp P Q a w := k _ _ hs hR
theorem Turned.toBelow {w w' : World} (h : Turned (fun _ => False) w w') : Below w.heap.size w w' := ⟨h.os, h.tape, h.output, h.size, fun b hb => h.block b hb id⟩
theorem Turned.lower {T : Nat → Prop} {W0 W w' : World} (h : Turned T W0 W) (hb : Below W0.heap.size W w') : Turned T W0 w' := ⟨hb.os.trans h.os, hb.tape.trans h.tape, hb.output.trans h.output, Nat.le_trans h.size hb.size, fun b h1 h2 => (hb.block b h1).trans (h.block b h1 h2)⟩
/-- bounds hands back the bool in its cell. -/
theorem bounds_out {w W0 w' : World} {tmps : Array Value} {p : Tmp} {fn : Func} {B : Nat} {x y : Bool} (h : fn.results = #[.cell p 4]) (hp : tmps.getD p undef = .pointer (some ⟨B + 1 + 1 + 1 + 1, 0, none⟩)) (hB : B = w.heap.size) (hwb : Below w.heap.size w W0) (hT : Turned (fun b => b = B + 4) W0 w') (hx : w'.heap[B + 4]? = some (.cells #[.bool x] 4)) (hxy : x = y) :
    ∃ v, (results fn tmps).run Try.prog w' = .ok v w' ∧ (Ending.returned v = .returned (.bool y) ∧ Below w.heap.size w w') := by
  subst hxy
  have hc : w'.cell? ⟨B + 1 + 1 + 1 + 1, 0, none⟩ = some (.bool x) := box1_cell hx
  have hl : (loadVar 4 ⟨B + 1 + 1 + 1 + 1, 0, none⟩).run Try.prog w' = .ok (.bool x) w' := by
    clear hB hT hwb hp h
    go_simp
  refine ⟨.bool x, results_cell1 h _ _ _ hp hl, rfl, ?_⟩
  exact ⟨hT.os.trans hwb.os, hT.tape.trans hwb.tape, hT.output.trans hwb.output, Nat.le_trans hwb.size hT.size, fun b hb => (hT.block b (Nat.lt_of_lt_of_le hb hwb.size) (by omega)).trans (hwb.block b hb)⟩
theorem tab_cell {w : World} {g : Option Addr} {f n : Nat} {t : List (List Int)} (h : TabAt w (.slice g t.length f) t) (hr : ∀ r ∈ t, r.length = n) {s k : Nat} (hs : s < t.length) (hk : k < n) :
    ∃ tb tp ub uo uc, g = some ⟨tb, tp, none⟩ ∧ w.cell? ⟨tb, tp + s, none⟩ = some (.slice (some ⟨ub, uo, none⟩) n uc) ∧ w.cell? ⟨ub, uo + k, none⟩ = some (.int .i64 (cellT t s k)) ∧ n ≤ uc ∧ uc ≤ maxLen := by
  obtain ⟨tb, tp, u, e, _, hc, hu⟩ := tab_get h hs
  have hl := hr _ (List.getElem_mem hs)
  obtain ⟨ua, uc, rfl, h1, h2⟩ := hu.1.form
  obtain ⟨ub, uo, rfl, _, hx⟩ := ints_get (IntsOf.at hu) (by omega : k < t[s].length)
  rw [hl] at hc h1
  refine ⟨tb, tp, ub, uo, uc, e, hc, ?_, h1, h2⟩
  rw [hx]
  simp [cellT, List.getD, hs, hl, hk]
theorem cellT_bd {t : List (List Int)} {lo hi : Int} (h : ∀ r ∈ t, ∀ x ∈ r, lo ≤ x ∧ x ≤ hi) (h0 : lo ≤ 0) (h1 : 0 ≤ hi) (s k : Nat) : lo ≤ cellT t s k ∧ cellT t s k ≤ hi := by
  unfold cellT
  by_cases hs : s < t.length
  · by_cases hk : k < t[s].length
    · have := h _ (List.getElem_mem hs) _ (List.getElem_mem hk)
      simpa [List.getD, hs, hk] using this
    · simp [List.getD, hs, List.getElem?_eq_none (Nat.le_of_not_lt hk), h0, h1]
  · simp [List.getD, List.getElem?_eq_none (Nat.le_of_not_lt hs), h0, h1]
set_option maxRecDepth 100000 in
set_option maxHeartbeats 40000000 in
theorem bounds_any (way : Int) (pl : List Pl) (need : List Int) (tt : List (List Int)) (pv nv tv : Value) (hok : ∀ p ∈ pl, PlOk p) (hneed : NeedOk pl need) (hT : ∀ r ∈ tt, ∀ x ∈ r, -1152921504606846976 ≤ x ∧ x ≤ 1152921504606846976) (w : World) (hp : PlacesAt w pv pl) (hn : IntsAt w nv need) (ht : TabAt w tv tt) :
    Calls Try.prog 47 #[.int .i64 way, pv, nv, tv] w fun e w' => e = .returned (.bool (boundsZ way (needL pl need) tt)) ∧ Below w.heap.size w w' := by
  obtain ⟨a, c, rfl, hca, hma⟩ := hp.form
  obtain ⟨b, d, rfl, hcb, hmb⟩ := hn.1.form
  obtain ⟨g, f, rfl, hcf, hmf⟩ := TabOf.form ht
  unfold maxLen at hma hmb hmf
  have hn8 := hneed.1
  have HNEED := hidep hneed
  have HNL := hidep (needL_len pl need)
  have HTT := hidep hT
  clear hneed hT
  obtain ⟨n, hnn⟩ : ∃ n, need.length = n := ⟨_, rfl⟩
  rw [hnn] at hn8 hcb hn
  have HNN := hidep hnn
  clear hnn
  obtain ⟨N, hNN⟩ : ∃ N, N = 2 ^ n := ⟨_, rfl⟩
  have hN : N ≤ 256 := by rw [hNN]; exact two_pow_lt hn8
  have hshl : wrap64 (2 ^ n) = ((N : Nat) : Int) := by
    rw [hNN]
    have : ∀ n, n ≤ 8 → wrap64 (2 ^ n) = ((2 ^ n : Nat) : Int) := by decide +kernel
    exact this n hn8
  have hshl2 : IntKind.i64.wrap (2 ^ n) = ((N : Nat) : Int) := by
    rw [hNN]
    have : ∀ n, n ≤ 8 → IntKind.i64.wrap (2 ^ n) = ((2 ^ n : Nat) : Int) := by decide +kernel
    exact this n hn8
  have HN2 := hidep hNN
  clear hNN
  obtain ⟨B, hB⟩ : ∃ B, B = w.heap.size := ⟨_, rfl⟩
  have hfw : Fence.wide.fn 47 := trivial
  refine (callsIn_wide (n := 8)).1 ?_
  refine callsIn_of_wp_marks Try.func47 rfl hfw ?_ rfl
  simp only [Try.ntmps47, List.size_toArray, List.length_cons, List.length_nil, Nat.reduceAdd, Nat.reduceSub, Array.replicate_succ, Array.replicate_zero, List.push_toArray, List.append_toArray, List.nil_append, List.cons_append]
  rw [HNN.out]
  refine wpIn_wide.2 ?_
  have hn0 : (0 : Int) ≤ (n : Int) := by omega
  have hn9 : (n : Int) ≤ 8 := by omega
  have hq := allocs_get [.cells #[.int .i64 way] 3, .cells #[.slice a pl.length c] 23, .cells #[.slice b n d] 22, .cells #[.slice g tt.length f] 33, .cells #[.bool false] 4, .cells #[.int .i64 (n : Nat)] 3] w
  have hwb := allocs_below [.cells #[.int .i64 way] 3, .cells #[.slice a pl.length c] 23, .cells #[.slice b n d] 22, .cells #[.slice g tt.length f] 33, .cells #[.bool false] 4, .cells #[.int .i64 (n : Nat)] 3] w
  have hsz := allocs_size [.cells #[.int .i64 way] 3, .cells #[.slice a pl.length c] 23, .cells #[.slice b n d] 22, .cells #[.slice g tt.length f] 33, .cells #[.bool false] 4, .cells #[.int .i64 (n : Nat)] 3] w
  go_upto_region 2 with (fail)
  change Code.wp _ _ _ _ (allocs w [.cells #[.int .i64 way] 3, .cells #[.slice a pl.length c] 23, .cells #[.slice b n d] 22, .cells #[.slice g tt.length f] 33, .cells #[.bool false] 4, .cells #[.int .i64 (n : Nat)] 3])
  generalize allocs w [.cells #[.int .i64 way] 3, .cells #[.slice a pl.length c] 23, .cells #[.slice b n d] 22, .cells #[.slice g tt.length f] 33, .cells #[.bool false] 4, .cells #[.int .i64 (n : Nat)] 3] = W0 at *
  simp only [List.length_cons, List.length_nil] at hsz
  have q0 := hq 0 _ rfl
  have q1 := hq 1 _ rfl
  have q2 := hq 2 _ rfl
  have q3 := hq 3 _ rfl
  have q4 := hq 4 _ rfl
  have q5 := hq 5 _ rfl
  clear hq
  rw [← hB] at q0 q1 q2 q3 q4 q5 hsz ⊢
  have HBE := hidep hB
  clear hB
  have c3 := box1_cell q3
  have c5 := box1_cell q5
  have HWB := hidep hwb
  have hpW := hp.below hwb
  have hnW := hn.below hwb
  have htW := TabAt.below ht hwb
  have HTB := hidep htW
  have HPB := hidep hpW
  have HNB := hidep hnW
  clear hpW hnW htW hp hn ht
  have HC0 := hidep (show ∀ X, Turned (fun _ => False) W0 X → X.cell? ⟨B + 1 + 1 + 1, 0, none⟩ = some (.slice g tt.length f) ∧ X.cell? ⟨B + 1 + 1 + 1 + 1 + 1, 0, none⟩ = some (.int .i64 (n : Nat)) from fun X hX => ⟨box1_cell (hX.cells q3 id), box1_cell (hX.cells q5 id)⟩)
  by_cases hlen : tt.length = N
  · subst hlen
    have HCR := hidep (show ∀ X, Turned (fun _ => False) W0 X → Calls Try.prog 65 #[.slice g tt.length f, .func (.func 66) #[] #[.pointer (some ⟨B + 1 + 1 + 1 + 1 + 1, 0, none⟩)]] X fun e w' => e = .returned (.bool (tt.any fun r : List Int => !decide (r.length = n))) ∧ X = w' from fun X hX => conR_any _ n _ tt X (HTB.out.below hX.toBelow) (HC0.out X hX).2)
    obtain ⟨an, han⟩ : ∃ an, an = tt.any fun r : List Int => !decide (r.length = n) := ⟨_, rfl⟩
    rw [← han] at HCR
    have HAN := hidep han
    clear han
    have hne2 : ((tt.length : Int) != (tt.length : Int)) = false := by simp
    refine wp_region_noPanic (wp_region_held_drew (S := (fun X => Turned (fun _ => False) W0 X)) (by kernel_rfl) ?hS47r2n0 (fun hHeld => ?hR47r2n0))
    case hS47r2n0 => ((try dsimp only); (exact (Turned.refl _ _).drew))
    refine wpAnyH_take (i := 0) (v := ?v47r2n0q1) rfl (by kernel_rfl) (by kernel_rfl) (by kernel_rfl) (fun _ _ _ h => h) (Or.inl ⟨by kernel_rfl, ?hy47r2n0q1⟩) (by assumption) ?hr47r2n0q1
    case hy47r2n0q1 => (intro w hSw; (try dsimp only at hSw); (obtain ⟨c3, c5⟩ := HC0.out w hSw); first | (go_simp; done) | (go_simp; with_reducible rfl))
    refine wpAnyH_take (i := 1) (v := ?v47r2n0q2) rfl (by kernel_rfl) (by kernel_rfl) (by kernel_rfl) (fun _ _ _ h => h) (Or.inl ⟨by kernel_rfl, ?hy47r2n0q2⟩) (by assumption) ?hr47r2n0q2
    case hy47r2n0q2 => (intro w hSw; (try dsimp only at hSw); (obtain ⟨c3, c5⟩ := HC0.out w hSw); first | (go_simp; done) | (go_simp; with_reducible rfl))
    refine wpAnyH_take (i := 2) (v := ?v47r2n0q3) rfl (by kernel_rfl) (by kernel_rfl) (by kernel_rfl) (fun _ _ _ h => h) (Or.inl ⟨by kernel_rfl, ?hy47r2n0q3⟩) (by assumption) ?hr47r2n0q3
    case hy47r2n0q3 => (intro w hSw; (try dsimp only at hSw); (obtain ⟨c3, c5⟩ := HC0.out w hSw); first | (go_simp; done) | (go_simp; with_reducible rfl))
    refine wpAnyH_take (i := 3) (v := ?v47r2n0q4) rfl (by kernel_rfl) (by kernel_rfl) (by kernel_rfl) (fun _ _ _ h => h) (Or.inl ⟨by kernel_rfl, ?hy47r2n0q4⟩) (by assumption) ?hr47r2n0q4
    case hy47r2n0q4 => (intro w hSw; (try dsimp only at hSw); (obtain ⟨c3, c5⟩ := HC0.out w hSw); first | (go_simp; done) | (go_simp; with_reducible rfl))
    refine wpAnyH_take (i := 4) (v := ?v47r2n0q5) rfl (by kernel_rfl) (by kernel_rfl) (by kernel_rfl) (fun _ _ _ h => h) (Or.inl ⟨by kernel_rfl, ?hy47r2n0q5⟩) (by assumption) ?hr47r2n0q5
    case hy47r2n0q5 => (intro w hSw; (try dsimp only at hSw); (obtain ⟨c3, c5⟩ := HC0.out w hSw); first | (go_simp; done) | (go_simp; with_reducible rfl))
    refine wpAnyH_take (i := 5) (v := ?v47r2n0q6) rfl (by kernel_rfl) (by kernel_rfl) (by kernel_rfl) (fun _ _ _ h => h) (Or.inl ⟨by kernel_rfl, ?hy47r2n0q6⟩) (by assumption) ?hr47r2n0q6
    case hy47r2n0q6 => (intro w hSw; (try dsimp only at hSw); (obtain ⟨c3, c5⟩ := HC0.out w hSw); first | (go_simp; done) | (go_simp; with_reducible rfl))
    refine wpAnyH_take (i := 6) (v := ?v47r2n0q7) rfl (by kernel_rfl) (by kernel_rfl) (by kernel_rfl) (fun _ _ _ h => h) (Or.inl ⟨by kernel_rfl, ?hy47r2n0q7⟩) (by assumption) ?hr47r2n0q7
    case hy47r2n0q7 => (intro w hSw; (try dsimp only at hSw); (obtain ⟨c3, c5⟩ := HC0.out w hSw); first | (go_simp; done) | (go_simp; with_reducible rfl))
    refine wpAnyH_ready (rs := [7]) (by kernel_rfl) (by simp) (AllReadyH.cons rfl (fun K hK => ?hc47r2n0q8) AllReadyH.nil)
    go_simp
    refine hK.out _ _ ?hs47r2n0q8 (fun hHeld47r2n0q8 => ?ht47r2n0q8)
    case hs47r2n0q8 => ((try dsimp only); (first | (with_reducible exact hHeld)))
    clear hHeld hK
    have hHeld := hHeld47r2n0q8
    clear hHeld47r2n0q8
    refine wpAnyH_ready (rs := [8]) (by kernel_rfl) (by simp) (AllReadyH.cons rfl (fun K hK => ?hc47r2n0q9) AllReadyH.nil)
    go_simp
    (go_at_call 65; refine (HCR.out _ hHeld).mono ?_; rintro e w4 ⟨rfl, rfl⟩; (try dsimp only))
    refine hK.out _ _ ?hs47r2n0q9 (fun hHeld47r2n0q9 => ?ht47r2n0q9)
    case hs47r2n0q9 => ((try dsimp only); (first | (with_reducible exact hHeld)))
    clear hHeld hK
    have hHeld := hHeld47r2n0q9
    clear hHeld47r2n0q9
    refine wpAnyH_take (i := 9) (v := ?v47r2n0q10) rfl (by kernel_rfl) (by kernel_rfl) (by kernel_rfl) (fun _ _ _ h => h) (Or.inl ⟨by kernel_rfl, ?hy47r2n0q10⟩) (by assumption) ?hr47r2n0q10
    case hy47r2n0q10 => (intro w hSw; (try dsimp only at hSw); (obtain ⟨c3, c5⟩ := HC0.out w hSw); first | (go_simp; done) | (go_simp; with_reducible rfl))
    refine wpAnyH_done (by kernel_rfl) ?_ _
    clear hHeld
    refine NoPanic.normal ?_
    apply_assumption
    refine wp_cutA 95 (fun tm ds => ds = [] ∧ slot tm 4 = .pointer (some ⟨B, 0, none⟩) ∧ slot tm 5 = .pointer (some ⟨B + 1, 0, none⟩) ∧ slot tm 6 = .pointer (some ⟨B + 1 + 1, 0, none⟩) ∧ slot tm 7 = .pointer (some ⟨B + 1 + 1 + 1, 0, none⟩) ∧ slot tm 8 = .pointer (some ⟨B + 1 + 1 + 1 + 1, 0, none⟩) ∧ slot tm 9 = .pointer (some ⟨B + 1 + 1 + 1 + 1 + 1, 0, none⟩) ∧ slot tm 25 = .bool an) (by kernel_rfl) (by exact ⟨by kernel_rfl, by kernel_rfl, by kernel_rfl, by kernel_rfl, by kernel_rfl, by kernel_rfl, by kernel_rfl, by kernel_rfl⟩) ?_
    rintro tm5 ds5 h95 ⟨rfl, e4, e5, e6, e7, e8, e9, e25⟩
    rw [frame95 tm5 [] h95, e4, e5, e6, e7, e8, e9, e25]
    clear h95 e4 e5 e6 e7 e8 e9 e25 hne2
    cases an with
    | true =>
      have hbz : Hid (boundsZ way (needL pl need) tt = false) := hidep (by unfold boundsZ; rw [HNL.out, HNN.out, ← HAN.out]; simp)
      have f4 : W0.frozen? ⟨B + 1 + 1 + 1 + 1, 0, none⟩ = false := by simp [World.frozen?, q4]
      have c4 : W0.cell? ⟨B + 1 + 1 + 1 + 1, 0, none⟩ = some (.bool false) := box1_cell q4
      clear hshl hshl2 q0 q1 q2 q3 q5
      go_wp2
      refine leavesM_marks (lo := (W0.setCell ⟨B + 1 + 1 + 1 + 1, 0, none⟩ (.bool false)).drew.heap.size) (Marks.nil _ _) (fun w' hc hb => ?_)
      have hT9 : Turned (fun b => b = B + 4) W0 ((W0.setCell ⟨B + 1 + 1 + 1 + 1, 0, none⟩ (.bool false)).drew) := ((Turned.refl (fun b => b = B + 4) W0).setCell ⟨B + 1 + 1 + 1 + 1, 0, none⟩ _ (.inr rfl)).drew
      exact bounds_out rfl rfl HBE.out HWB.out (hT9.below hb) (hc _ _ (heap_set q4 0 (.bool false)) rfl) hbz.out.symm
    | false =>
      have HROW := hidep (show ∀ r ∈ tt, r.length = n from fun r hr => by
        have := HAN.out
        rw [eq_comm, List.any_eq_false] at this
        have := this r hr
        simpa using this)
      have HBZ := hidep (show boundsZ way (needL pl need) tt = (List.range tt.length).all fun s => (othersL s n (-1)).all fun k => okK way (needL pl need) tt s k by unfold boundsZ; rw [HNL.out, HNN.out, ← HAN.out, ← HN2.out]; simp)
      clear HAN HCR
      have hd3 : W0.drew.cell? ⟨B + 1 + 1 + 1, 0, none⟩ = some (.slice g tt.length f) := c3
      go_upto_region 5 with (fail)
      refine wp_abs (fun X => Turned (fun _ => False) W0 X) ((Turned.refl _ _).drew) ?_
      rintro W1 hT01
      obtain ⟨N, hN3⟩ : ∃ N, N = tt.length := ⟨_, rfl⟩
      rw [← hN3] at hN hshl hshl2 HN2 HBZ ⊢
      rw [← hN3] at hcf
      have HN3 := hidep hN3
      clear hd3 hN3 c3 c5
      refine wp_loop (LoopI 95 (fun tm ds wr => (slot tm 4) = .pointer (some ⟨B, 0, none⟩) ∧ (slot tm 5) = .pointer (some ⟨B + 1, 0, none⟩) ∧ (slot tm 6) = .pointer (some ⟨B + 1 + 1, 0, none⟩) ∧ (slot tm 7) = .pointer (some ⟨B + 1 + 1 + 1, 0, none⟩) ∧ (slot tm 8) = .pointer (some ⟨B + 1 + 1 + 1 + 1, 0, none⟩) ∧ (slot tm 9) = .pointer (some ⟨B + 1 + 1 + 1 + 1 + 1, 0, none⟩) ∧ (slot tm 27) = .int .i64 (N : Nat) ∧ ∃ i : Nat, i ≤ N ∧ (slot tm 28) = .int .i64 (i : Nat) ∧ Turned (fun _ => False) W0 wr ∧ Marks W0.heap.size ds wr ∧ Hid (∀ s, s < i → ((othersL s n (-1)).all fun k => okK way (needL pl need) tt s k) = true))) (fun a' wr => N - (intOf (a'.tmps.getD 28 undef)).toNat) ?mainStart ?mainRound
      case' mainStart => refine LoopI.mk rfl ?_
      case' mainRound => (rintro ⟨t, ds⟩ wr ⟨hts, hrel⟩; dsimp only at hts hrel; rw [frame95 t ds hts])
      case mainStart => exact ⟨rfl, rfl, rfl, rfl, rfl, rfl, rfl, 0, Nat.zero_le _, rfl, hT01, Marks.nil _ _, hidep (fun s hs => absurd hs (Nat.not_lt_zero _))⟩
      obtain ⟨h4, h5, h6, h7, h8, h9, h27, i, hi, h28, hTr, hMk, HALL⟩ := hrel
      rw [h4, h5, h6, h7, h8, h9, h27, h28]
      clear h4 h5 h6 h7 h8 h9 h27 h28 hts hT01
      have HMK := hidep hMk
      clear hMk
      by_cases hlt : i < N
      · have hi0 : (0 : Int) ≤ (i : Int) := by omega
        have hi1 : (i : Int) < (N : Int) := by omega
        have k5 : wr.cell? ⟨B + 1 + 1 + 1 + 1 + 1, 0, none⟩ = some (.int .i64 (n : Nat)) := box1_cell (hTr.cells q5 id)
        have hsr := hTr.size
        have k5a : (wr.alloc (.cells #[.int .i64 (i : Nat)] 3)).cell? ⟨B + 1 + 1 + 1 + 1 + 1, 0, none⟩ = some (.int .i64 (n : Nat)) := (((Below.refl _ wr).alloc (Nat.le_refl _) _).cell (p := ⟨B + 1 + 1 + 1 + 1 + 1, 0, none⟩) (lt_of_block (hTr.cells q5 id))).trans k5
        go_wp2_with (first
          | (go_at_call 40; refine (others_any i n (-1) _).mono ?_; rintro e w7 ⟨rfl, hO7, hs7, hb7⟩)
          | fail)
        have hfc : Fence.wide.fn 61 := trivial
        have hT7 : Turned (fun _ => False) wr w7 := ((Turned.refl _ _).alloc _).below hb7
        have h10 : w7.heap[wr.heap.size]? = some (.cells #[.int .i64 (i : Nat)] 3) := (hb7.block _ (by simp)).trans (heap_alloc_new wr _)
        have hs8 : w7.heap.size = wr.heap.size + 1 + 3 := by rw [hs7]; simp
        rw [World.size_alloc] at hO7
        have HHB := hidep hb7
        clear hb7 hs7 k5 k5a
        obtain ⟨wo, hwo⟩ : ∃ wo : World, wo = wr := ⟨_, rfl⟩
        subst hwo
        generalize hp9 : wo.heap.size = p9 at *
        have HP9 := hidep hp9
        clear hp9
        have hT07 : Turned (fun _ => False) W0 w7 := hTr.trans hT7
        refine (wpIn_wide (n := 8)).1 ?_
        refine wpIn_rangeFunc_ownH rfl (by omega) (gf := 61) (lb := _) rfl hfc (enters_of Try.func61 (by kernel_rfl) rfl) (others_stops (8 - 1) (by omega) _ i n (-1) (by omega) hn8 (by omega) (by omega) w7 hO7) (fun h k => Kp3.trans h k) (Kp3.putObj (n := w7.heap.size) (by omega)) (Below.refl _ _) (fun _ => rfl)
          (fun pre W => (∀ y ∈ othV pre, okK way (needL pl need) tt i y = true) ∧ Turned (fun _ => False) w7 W)
          (fun cd pre W => cd = .ret ∧ (∃ k ∈ othersL i n (-1), okK way (needL pl need) tt i k = false) ∧ Turned (fun b => b = B + 4) w7 W ∧ W.heap[B + 4]? = some (.cells #[.bool false] 4))
          (fun st A B row hs hg hr => ⟨hs.1, hs.2.own hg (fun r e => (hr r e).1)⟩)
          (fun cd st A A' row hs hg hr => ⟨hs.1, hs.2.1, hs.2.2.1.own hg (fun r e => (hr r e).1), (hg.block _ (lt_of_block hs.2.2.2) (fun e => by have := (hr _ e.symm).1; omega)).trans hs.2.2.2⟩)
          ⟨fun y hy => (by cases hy), Turned.refl _ _⟩
          (fun x a' W => a'.tmps.size = 95 ∧ a'.defers = [] ∧ slot a'.tmps 4 = .pointer (some ⟨B, 0, none⟩) ∧ slot a'.tmps 5 = .pointer (some ⟨B + 1, 0, none⟩) ∧ slot a'.tmps 6 = .pointer (some ⟨B + 1 + 1, 0, none⟩) ∧ slot a'.tmps 7 = .pointer (some ⟨B + 1 + 1 + 1, 0, none⟩) ∧ slot a'.tmps 8 = .pointer (some ⟨B + 1 + 1 + 1 + 1, 0, none⟩) ∧ slot a'.tmps 9 = .pointer (some ⟨B + 1 + 1 + 1 + 1 + 1, 0, none⟩) ∧ slot a'.tmps 10 = .pointer (some ⟨p9, 0, none⟩) ∧ ∃ Bx, w7.heap.size ≤ Bx ∧ slot a'.tmps 11 = .pointer (some ⟨Bx, 0, none⟩) ∧ W.heap[Bx]? = some (.cells #[.int .i64 (x.1 : Nat)] 3))
          (fun x a' _ X Y row hs hg hr => by
            obtain ⟨h1, h2, h3, h4, h5, h6, h7, h8, h9, Bx, h10, h11, h12⟩ := hs
            refine ⟨h1, h2, h3, h4, h5, h6, h7, h8, h9, Bx, h10, h11, (hg.block Bx (lt_of_block h12) (fun e => ?_)).trans h12⟩
            obtain ⟨_, o, ho, hoc⟩ := hr Bx e.symm
            rw [h12] at ho
            injection ho with ho
            subst ho
            cases hoc)
          ?assign ?body ?done ?stop
        case assign =>
          rintro l pre x W K ⟨hall, hTW⟩ hK
          obtain ⟨k, hkm⟩ := x
          gi_wp2
          have hTa : Turned (fun _ => False) W (W.alloc (.cells #[.int .i64 (k : Nat)] 3)) := (Turned.refl _ _).alloc _
          have hsw := hTW.size
          exact hK _ _ (hTa.from (fun _ _ h => h)) (hTa.kp3 (by omega) (fun _ _ _ h => h)) ⟨hall, hTW.trans hTa⟩ ⟨by rfl, by rfl, by rfl, by rfl, by rfl, by rfl, by rfl, by rfl, by rfl, W.heap.size, hsw, by rfl, heap_alloc_new W _⟩
        case body =>
          rintro l pre x ⟨tm7, ds7⟩ W hl ⟨rl, hlr⟩ ⟨hall, hTW⟩ ⟨h95, hds, h4, h5, h6, h7, h8, h9, h10', Bx, hBx, h11, hbx⟩ hlen2
          obtain ⟨k, hkm⟩ := x
          obtain ⟨hkn, _, hkb⟩ := othersL_mem.1 hkm
          have HKM := hidep hkm
          dsimp only at h95 hds h4 h5 h6 h7 h8 h9 h10' h11 hbx
          subst hds
          rw [frame95 tm7 [] h95, h4, h5, h6, h7, h8, h9, h10', h11]
          clear h95 h4 h5 h6 h7 h8 h9 h10' h11
          have hkl : k < need.length := by rw [HNN.out]; exact hkn
          obtain ⟨pi, hpi, hni, hli⟩ := needL_get HNEED.out hkl
          have hnw : IntsAt W0 (.slice b need.length d) need := by rw [HNN.out]; exact HNB.out
          obtain ⟨nb, no, rfl, hnbl, hnc⟩ := ints_get hnw hkl
          obtain ⟨pb, po, rfl, hpbl, p0, p1, p2, p3, p4, p5⟩ := PlacesAt.at HPB.out hpi
          obtain ⟨tb, tp, ub, uo, uc, rfl, ht1, ht2, huc, hum⟩ := tab_cell HTB.out HROW.out (s := i) (k := k) (by rw [← HN3.out]; exact hlt) hkn
          unfold maxLen at hum
          rw [hni] at hnc
          have hpk := lp_ok (needL_ok hok (need := need)) k
          have HLI := hidep hli
          rw [hli] at hpk
          generalize pl[pi] = tq at *
          obtain ⟨t0, t1, t2, t3, t4, t5⟩ := tq
          simp only at p0 p1 p2 p3 p4 p5
          have hpi0 : (0 : Int) ≤ (pi : Int) := by omega
          have hpi1 : (pi : Int) < (pl.length : Int) := by omega
          have hk0 : (0 : Int) ≤ (k : Int) := by omega
          have hk1 : (k : Int) < (n : Int) := by omega
          have hT0W := hT07.trans hTW
          have HC1 := hidep (show ∀ X, Turned (fun _ => False) W X → X.cell? ⟨B + 1, 0, none⟩ = some (.slice (some ⟨pb, po, none⟩) pl.length c) ∧ X.cell? ⟨B + 1 + 1, 0, none⟩ = some (.slice (some ⟨nb, no, none⟩) n d) ∧ X.cell? ⟨Bx, 0, none⟩ = some (.int .i64 (k : Nat)) ∧
              X.cell? ⟨nb, no + k, none⟩ = some (.int .i64 (pi : Nat)) ∧ X.cell? ⟨pb, po + pi * 6, none⟩ = some (.int .i64 t0) ∧ X.cell? ⟨pb, po + pi * 6 + 1, none⟩ = some (.int .i64 t1) ∧ X.cell? ⟨pb, po + pi * 6 + 2, none⟩ = some (.int .i64 t2) ∧
              X.cell? ⟨pb, po + pi * 6 + 3, none⟩ = some (.int .i64 t3) ∧ X.cell? ⟨pb, po + pi * 6 + 4, none⟩ = some (.int .i64 t4) ∧ X.cell? ⟨pb, po + pi * 6 + 5, none⟩ = some (.int .i64 t5) from fun X hX =>
            have hh := hT0W.trans hX
            ⟨box1_cell (hh.cells q1 id), box1_cell (hh.cells q2 id), box1_cell (hX.cells hbx id), hh.cell hnc id, hh.cell p0 id, hh.cell p1 id, hh.cell p2 id, hh.cell p3 id, hh.cell p4 id, hh.cell p5 id⟩)
          have HP := hidep (show ∀ X, Turned (fun _ => False) W0 X → X.cell? ⟨tb, tp + i, none⟩ = some (.slice (some ⟨ub, uo, none⟩) n uc) ∧ X.cell? ⟨ub, uo + k, none⟩ = some (.int .i64 (cellT tt i k)) from fun X hX => ⟨hX.cell ht1 id, hX.cell ht2 id⟩)
          clear hnw ht1 ht2 hnc p0 p1 p2 p3 p4 p5
          gi_wp2
          refine wpIn_region_round (S := (fun X => Turned (fun _ => False) W X)) (by kernel_rfl) (by kernel_rfl) (by rintro ⟨_, _, h⟩; exact h) ?hS47r9n1 (fun hHeld => ?hR47r9n1)
          case hS47r9n1 => ((try dsimp only); (exact (Turned.refl _ _).drew))
          refine wpAnyH_take (i := 0) (v := ?v47r9n1q1) rfl (by kernel_rfl) (by kernel_rfl) (by kernel_rfl) (fun _ _ _ h => h) (Or.inl ⟨by kernel_rfl, ?hy47r9n1q1⟩) (by assumption) ?hr47r9n1q1
          case hy47r9n1q1 => (intro w hSw; (try dsimp only at hSw); (obtain ⟨c1, c2, c3, c4, c5, c6, c7, c8, c9, c10⟩ := HC1.out w hSw); first | (go_simp; done) | (go_simp; with_reducible rfl))
          refine wpAnyH_take (i := 1) (v := ?v47r9n1q2) rfl (by kernel_rfl) (by kernel_rfl) (by kernel_rfl) (fun _ _ _ h => h) (Or.inl ⟨by kernel_rfl, ?hy47r9n1q2⟩) (by assumption) ?hr47r9n1q2
          case hy47r9n1q2 => (intro w hSw; (try dsimp only at hSw); (obtain ⟨c1, c2, c3, c4, c5, c6, c7, c8, c9, c10⟩ := HC1.out w hSw); first | (go_simp; done) | (go_simp; with_reducible rfl))
          refine wpAnyH_take (i := 2) (v := ?v47r9n1q3) rfl (by kernel_rfl) (by kernel_rfl) (by kernel_rfl) (fun _ _ _ h => h) (Or.inl ⟨by kernel_rfl, ?hy47r9n1q3⟩) (by assumption) ?hr47r9n1q3
          case hy47r9n1q3 => (intro w hSw; (try dsimp only at hSw); (obtain ⟨c1, c2, c3, c4, c5, c6, c7, c8, c9, c10⟩ := HC1.out w hSw); first | (go_simp; done) | (go_simp; with_reducible rfl))
          refine wpAnyH_take (i := 3) (v := ?v47r9n1q4) rfl (by kernel_rfl) (by kernel_rfl) (by kernel_rfl) (fun _ _ _ h => h) (Or.inl ⟨by kernel_rfl, ?hy47r9n1q4⟩) (by assumption) ?hr47r9n1q4
          case hy47r9n1q4 => (intro w hSw; (try dsimp only at hSw); (obtain ⟨c1, c2, c3, c4, c5, c6, c7, c8, c9, c10⟩ := HC1.out w hSw); first | (go_simp; done) | (go_simp; with_reducible rfl))
          refine wpAnyH_take (i := 4) (v := ?v47r9n1q5) rfl (by kernel_rfl) (by kernel_rfl) (by kernel_rfl) (fun _ _ _ h => h) (Or.inl ⟨by kernel_rfl, ?hy47r9n1q5⟩) (by assumption) ?hr47r9n1q5
          case hy47r9n1q5 => (intro w hSw; (try dsimp only at hSw); (obtain ⟨c1, c2, c3, c4, c5, c6, c7, c8, c9, c10⟩ := HC1.out w hSw); first | (go_simp; done) | (go_simp; with_reducible rfl))
          refine wpAnyH_take (i := 5) (v := ?v47r9n1q6) rfl (by kernel_rfl) (by kernel_rfl) (by kernel_rfl) (fun _ _ _ h => h) (Or.inl ⟨by kernel_rfl, ?hy47r9n1q6⟩) (by assumption) ?hr47r9n1q6
          case hy47r9n1q6 => (intro w hSw; (try dsimp only at hSw); (obtain ⟨c1, c2, c3, c4, c5, c6, c7, c8, c9, c10⟩ := HC1.out w hSw); first | (go_simp; done) | (go_simp; with_reducible rfl))
          refine wpAnyH_take (i := 6) (v := ?v47r9n1q7) rfl (by kernel_rfl) (by kernel_rfl) (by kernel_rfl) (fun _ _ _ h => h) (Or.inl ⟨by kernel_rfl, ?hy47r9n1q7⟩) (by assumption) ?hr47r9n1q7
          case hy47r9n1q7 => (intro w hSw; (try dsimp only at hSw); (obtain ⟨c1, c2, c3, c4, c5, c6, c7, c8, c9, c10⟩ := HC1.out w hSw); first | (go_simp; done) | (go_simp; with_reducible rfl))
          refine wpAnyH_ready (rs := [7]) (by kernel_rfl) (by simp) (AllReadyH.cons rfl (fun K hK => ?hc47r9n1q8) AllReadyH.nil)
          go_simp
          refine hK.out _ _ ?hs47r9n1q8 (fun hHeld47r9n1q8 => ?ht47r9n1q8)
          case hs47r9n1q8 => ((try dsimp only); (first | exact hHeld.alloc _ | exact (Turned.refl _ _).drew.alloc _ | exact ((Turned.refl _ _).alloc _).drew))
          clear hHeld hK
          have hHeld := hHeld47r9n1q8
          clear hHeld47r9n1q8
          refine wpAnyH_ready (rs := [8]) (by kernel_rfl) (by simp) (AllReadyH.cons rfl (fun K hK => ?hc47r9n1q9) AllReadyH.nil)
          go_simp
          refine hK.out _ _ ?hs47r9n1q9 (fun hHeld47r9n1q9 => ?ht47r9n1q9)
          case hs47r9n1q9 => ((try dsimp only); (first | exact hHeld.alloc _ | exact (Turned.refl _ _).drew.alloc _ | exact ((Turned.refl _ _).alloc _).drew))
          clear hHeld hK
          have hHeld := hHeld47r9n1q9
          clear hHeld47r9n1q9
          refine wpAnyH_done (by kernel_rfl) ?_ _
          clear hHeld
          obtain ⟨Wb, hWb⟩ : ∃ Wb, Wb = (W.alloc (.cells #[.int .i64 t0, .int .i64 t1, .int .i64 t2, .int .i64 t3, .int .i64 t4, .int .i64 t5] 26)).drew := ⟨_, rfl⟩
          have hTb : Turned (fun _ => False) W Wb := by rw [hWb]; exact ((Turned.refl _ _).alloc _).drew
          have hcb : Wb.heap[W.heap.size]? = some (.cells #[.int .i64 t0, .int .i64 t1, .int .i64 t2, .int .i64 t3, .int .i64 t4, .int .i64 t5] 26) := by rw [hWb]; exact heap_alloc_new W _
          rw [← hWb]
          clear hWb
          apply_assumption
          refine wpIn_cutA 95 (fun tm ds => ds = [] ∧ slot tm 4 = .pointer (some ⟨B, 0, none⟩) ∧ slot tm 5 = .pointer (some ⟨B + 1, 0, none⟩) ∧ slot tm 6 = .pointer (some ⟨B + 1 + 1, 0, none⟩) ∧ slot tm 7 = .pointer (some ⟨B + 1 + 1 + 1, 0, none⟩) ∧ slot tm 8 = .pointer (some ⟨B + 1 + 1 + 1 + 1, 0, none⟩) ∧ slot tm 9 = .pointer (some ⟨B + 1 + 1 + 1 + 1 + 1, 0, none⟩) ∧ slot tm 10 = .pointer (some ⟨p9, 0, none⟩) ∧ slot tm 11 = .pointer (some ⟨Bx, 0, none⟩) ∧ slot tm 12 = .pointer (some ⟨W.heap.size, 0, none⟩)) (by kernel_rfl) (by exact ⟨by kernel_rfl, by kernel_rfl, by kernel_rfl, by kernel_rfl, by kernel_rfl, by kernel_rfl, by kernel_rfl, by kernel_rfl, by kernel_rfl, by kernel_rfl⟩) ?_
          rintro tm8 ds8 h95 ⟨rfl, e4, e5, e6, e7, e8, e9, e10, e11, e12⟩
          rw [frame95 tm8 [] h95, e4, e5, e6, e7, e8, e9, e10, e11, e12]
          clear h95 e4 e5 e6 e7 e8 e9 e10 e11 e12
          have HB6 := hidep (show ∀ X, Turned (fun _ => False) Wb X → X.heap[W.heap.size]? = some (.cells #[.int .i64 t0, .int .i64 t1, .int .i64 t2, .int .i64 t3, .int .i64 t4, .int .i64 t5] 26) from fun X hX => hX.cells hcb id)
          have HC2 := hidep (show ∀ X, Turned (fun _ => False) Wb X → X.cell? ⟨B, 0, none⟩ = some (.int .i64 way) ∧ X.cell? ⟨B + 1 + 1 + 1, 0, none⟩ = some (.slice (some ⟨tb, tp, none⟩) N f) ∧ X.cell? ⟨p9, 0, none⟩ = some (.int .i64 (i : Nat)) ∧ X.cell? ⟨Bx, 0, none⟩ = some (.int .i64 (k : Nat)) ∧
              X.cell? ⟨tb, tp + i, none⟩ = some (.slice (some ⟨ub, uo, none⟩) n uc) ∧ X.cell? ⟨ub, uo + k, none⟩ = some (.int .i64 (cellT tt i k)) ∧ X.heap[W.heap.size]? = some (.cells #[.int .i64 t0, .int .i64 t1, .int .i64 t2, .int .i64 t3, .int .i64 t4, .int .i64 t5] 26) ∧
              X.cell? ⟨B + 1 + 1 + 1 + 1 + 1, 0, none⟩ = some (.int .i64 (n : Nat)) from fun X hX =>
            have hw := hTb.trans hX
            have hh := hT0W.trans hw
            have hp := HP.out X hh
            ⟨box1_cell (hh.cells q0 id), box1_cell (by rw [HN3.out]; exact hh.cells q3 id), box1_cell ((hTW.trans hw).cells h10 id), box1_cell (hw.cells hbx id), hp.1, hp.2, hX.cells hcb id, box1_cell (hh.cells q5 id)⟩)
          have HCOST0 := hidep (fun X => rcost_any way pl0 ⟨t0, t1, t2, t3, t4, t5⟩ X pl0_ok hpk)
          obtain ⟨cv, hcv⟩ : ∃ cv, cv = costZ way pl0 ⟨t0, t1, t2, t3, t4, t5⟩ := ⟨_, rfl⟩
          obtain ⟨tv, htv⟩ : ∃ tv, tv = cellT tt i k := ⟨_, rfl⟩
          rw [← hcv] at HCOST0
          rw [← htv] at HC2
          have HCV := hidep hcv
          have HTV := hidep htv
          clear hcv htv
          obtain ⟨b1, hb1⟩ : ∃ b1, b1 = (decide (i = 2 ^ k) && decide (cv < tv)) := ⟨_, rfl⟩
          have HB1 := hidep hb1
          clear hb1
          have HG2 := hidep hT0W
          have HG3 := hidep hTb
          have HG4 := hidep hTW
          have HG5 := hidep hbx
          have HG6 := hidep hcb
          have HG7 := hidep h10
          have HALL2 := hidep hall
          have HQ4 := hidep q4
          have HSB := hidep (show B + 5 ≤ w7.heap.size by have := hT07.size; have := lt_of_block q5; omega)
          have HLR := hidep hlr
          have i256 : i < 256 := by omega
          have hsq := shl_eq i i256 k (by omega)
          have hsq2 : (((i : Nat) : Int) == IntKind.i64.wrap (2 ^ k)) = decide (i = 2 ^ k) := by have := shl_eq i i256 k (by omega); rwa [Nat.min_eq_left (by omega)] at this
          have HKB := hidep hkb
          clear hT0W hTb hTW hbx hcb hall hlr hT07 hTr hT7 h10 q0 q1 q2 q3 q4 q5 hO7 hkb hshl hshl2
          gi_wp2
          refine wpIn_join (fun a' X => a'.tmps.size = 95 ∧ a'.defers = [] ∧ slot a'.tmps 4 = .pointer (some ⟨B, 0, none⟩) ∧ slot a'.tmps 5 = .pointer (some ⟨B + 1, 0, none⟩) ∧ slot a'.tmps 6 = .pointer (some ⟨B + 1 + 1, 0, none⟩) ∧ slot a'.tmps 7 = .pointer (some ⟨B + 1 + 1 + 1, 0, none⟩) ∧ slot a'.tmps 8 = .pointer (some ⟨B + 1 + 1 + 1 + 1, 0, none⟩) ∧ slot a'.tmps 9 = .pointer (some ⟨B + 1 + 1 + 1 + 1 + 1, 0, none⟩) ∧ slot a'.tmps 10 = .pointer (some ⟨p9, 0, none⟩) ∧ slot a'.tmps 11 = .pointer (some ⟨Bx, 0, none⟩) ∧ slot a'.tmps 12 = .pointer (some ⟨W.heap.size, 0, none⟩) ∧ slot a'.tmps 59 = .bool b1 ∧ Turned (fun _ => False) Wb X) ?j1 ?j2
          case j1 =>
            intro KK hKK
            by_cases hik : i = 2 ^ k
            · rw [decide_eq_true hik] at hsq hsq2
              have HI2 : Hid (b1 = decide (cv < tv)) := hidep (by rw [HB1.out, decide_eq_true hik]; rfl)
              clear hik
              refine wpIn_region_round (S := (fun X => Turned (fun _ => False) Wb X)) (by kernel_rfl) (by kernel_rfl) (by rintro ⟨_, _, h⟩; exact h) ?hS47r10n2 (fun hHeld => ?hR47r10n2)
              case hS47r10n2 => ((try dsimp only); (exact (Turned.refl _ _).drew))
              refine wpAnyH_take (i := 0) (v := ?v47r10n2q1) rfl (by kernel_rfl) (by kernel_rfl) (by kernel_rfl) (fun _ _ _ h => h) (Or.inl ⟨by kernel_rfl, ?hy47r10n2q1⟩) (by assumption) ?hr47r10n2q1
              case hy47r10n2q1 => (intro w hSw; (try dsimp only at hSw); (obtain ⟨c1, c2, c3, c4, c5, c6, c7, c8⟩ := HC2.out w hSw; obtain ⟨d0, d1, d2, d3, d4, d5⟩ := box6_cells c7); first | (go_simp; done) | (go_simp; with_reducible rfl))
              refine wpAnyH_take (i := 1) (v := ?v47r10n2q2) rfl (by kernel_rfl) (by kernel_rfl) (by kernel_rfl) (fun _ _ _ h => h) (Or.inl ⟨by kernel_rfl, ?hy47r10n2q2⟩) (by assumption) ?hr47r10n2q2
              case hy47r10n2q2 => (intro w hSw; (try dsimp only at hSw); (obtain ⟨c1, c2, c3, c4, c5, c6, c7, c8⟩ := HC2.out w hSw; obtain ⟨d0, d1, d2, d3, d4, d5⟩ := box6_cells c7); first | (go_simp; done) | (go_simp; with_reducible rfl))
              refine wpAnyH_take (i := 2) (v := ?v47r10n2q3) rfl (by kernel_rfl) (by kernel_rfl) (by kernel_rfl) (fun _ _ _ h => h) (Or.inl ⟨by kernel_rfl, ?hy47r10n2q3⟩) (by assumption) ?hr47r10n2q3
              case hy47r10n2q3 => (intro w hSw; (try dsimp only at hSw); (obtain ⟨c1, c2, c3, c4, c5, c6, c7, c8⟩ := HC2.out w hSw; obtain ⟨d0, d1, d2, d3, d4, d5⟩ := box6_cells c7); first | (go_simp; done) | (go_simp; with_reducible rfl))
              refine wpAnyH_take (i := 3) (v := ?v47r10n2q4) rfl (by kernel_rfl) (by kernel_rfl) (by kernel_rfl) (fun _ _ _ h => h) (Or.inl ⟨by kernel_rfl, ?hy47r10n2q4⟩) (by assumption) ?hr47r10n2q4
              case hy47r10n2q4 => (intro w hSw; (try dsimp only at hSw); (obtain ⟨c1, c2, c3, c4, c5, c6, c7, c8⟩ := HC2.out w hSw; obtain ⟨d0, d1, d2, d3, d4, d5⟩ := box6_cells c7); first | (go_simp; done) | (go_simp; with_reducible rfl))
              refine wpAnyH_take (i := 4) (v := ?v47r10n2q5) rfl (by kernel_rfl) (by kernel_rfl) (by kernel_rfl) (fun _ _ _ h => h) (Or.inl ⟨by kernel_rfl, ?hy47r10n2q5⟩) (by assumption) ?hr47r10n2q5
              case hy47r10n2q5 => (intro w hSw; (try dsimp only at hSw); (obtain ⟨c1, c2, c3, c4, c5, c6, c7, c8⟩ := HC2.out w hSw; obtain ⟨d0, d1, d2, d3, d4, d5⟩ := box6_cells c7); first | (go_simp; done) | (go_simp; with_reducible rfl))
              refine wpAnyH_take (i := 5) (v := ?v47r10n2q6) rfl (by kernel_rfl) (by kernel_rfl) (by kernel_rfl) (fun _ _ _ h => h) (Or.inl ⟨by kernel_rfl, ?hy47r10n2q6⟩) (by assumption) ?hr47r10n2q6
              case hy47r10n2q6 => (intro w hSw; (try dsimp only at hSw); (obtain ⟨c1, c2, c3, c4, c5, c6, c7, c8⟩ := HC2.out w hSw; obtain ⟨d0, d1, d2, d3, d4, d5⟩ := box6_cells c7); first | (go_simp; done) | (go_simp; with_reducible rfl))
              refine wpAnyH_take (i := 6) (v := ?v47r10n2q7) rfl (by kernel_rfl) (by kernel_rfl) (by kernel_rfl) (fun _ _ _ h => h) (Or.inl ⟨by kernel_rfl, ?hy47r10n2q7⟩) (by assumption) ?hr47r10n2q7
              case hy47r10n2q7 => (intro w hSw; (try dsimp only at hSw); (obtain ⟨c1, c2, c3, c4, c5, c6, c7, c8⟩ := HC2.out w hSw; obtain ⟨d0, d1, d2, d3, d4, d5⟩ := box6_cells c7); first | (go_simp; done) | (go_simp; with_reducible rfl))
              refine wpAnyH_take (i := 7) (v := ?v47r10n2q8) rfl (by kernel_rfl) (by kernel_rfl) (by kernel_rfl) (fun _ _ _ h => h) (Or.inl ⟨by kernel_rfl, ?hy47r10n2q8⟩) (by assumption) ?hr47r10n2q8
              case hy47r10n2q8 => (intro w hSw; (try dsimp only at hSw); (obtain ⟨c1, c2, c3, c4, c5, c6, c7, c8⟩ := HC2.out w hSw; obtain ⟨d0, d1, d2, d3, d4, d5⟩ := box6_cells c7); first | (go_simp; done) | (go_simp; with_reducible rfl))
              refine wpAnyH_take (i := 8) (v := ?v47r10n2q9) rfl (by kernel_rfl) (by kernel_rfl) (by kernel_rfl) (fun _ _ _ h => h) (Or.inl ⟨by kernel_rfl, ?hy47r10n2q9⟩) (by assumption) ?hr47r10n2q9
              case hy47r10n2q9 => (intro w hSw; (try dsimp only at hSw); (obtain ⟨c1, c2, c3, c4, c5, c6, c7, c8⟩ := HC2.out w hSw; obtain ⟨d0, d1, d2, d3, d4, d5⟩ := box6_cells c7); first | (go_simp; done) | (go_simp; with_reducible rfl))
              refine wpAnyH_take (i := 9) (v := ?v47r10n2q10) rfl (by kernel_rfl) (by kernel_rfl) (by kernel_rfl) (fun _ _ _ h => h) (Or.inl ⟨by kernel_rfl, ?hy47r10n2q10⟩) (by assumption) ?hr47r10n2q10
              case hy47r10n2q10 => (intro w hSw; (try dsimp only at hSw); (obtain ⟨c1, c2, c3, c4, c5, c6, c7, c8⟩ := HC2.out w hSw; obtain ⟨d0, d1, d2, d3, d4, d5⟩ := box6_cells c7); first | (go_simp; done) | (go_simp; with_reducible rfl))
              refine wpAnyH_take (i := 10) (v := ?v47r10n2q11) rfl (by kernel_rfl) (by kernel_rfl) (by kernel_rfl) (fun _ _ _ h => h) (Or.inl ⟨by kernel_rfl, ?hy47r10n2q11⟩) (by assumption) ?hr47r10n2q11
              case hy47r10n2q11 => (intro w hSw; (try dsimp only at hSw); (obtain ⟨c1, c2, c3, c4, c5, c6, c7, c8⟩ := HC2.out w hSw; obtain ⟨d0, d1, d2, d3, d4, d5⟩ := box6_cells c7); first | (go_simp; done) | (go_simp; with_reducible rfl))
              refine wpAnyH_take (i := 11) (v := ?v47r10n2q12) rfl (by kernel_rfl) (by kernel_rfl) (by kernel_rfl) (fun _ _ _ h => h) (Or.inl ⟨by kernel_rfl, ?hy47r10n2q12⟩) (by assumption) ?hr47r10n2q12
              case hy47r10n2q12 => (intro w hSw; (try dsimp only at hSw); (obtain ⟨c1, c2, c3, c4, c5, c6, c7, c8⟩ := HC2.out w hSw; obtain ⟨d0, d1, d2, d3, d4, d5⟩ := box6_cells c7); first | (go_simp; done) | (go_simp; with_reducible rfl))
              refine wpAnyH_take (i := 12) (v := ?v47r10n2q13) rfl (by kernel_rfl) (by kernel_rfl) (by kernel_rfl) (fun _ _ _ h => h) (Or.inl ⟨by kernel_rfl, ?hy47r10n2q13⟩) (by assumption) ?hr47r10n2q13
              case hy47r10n2q13 => (intro w hSw; (try dsimp only at hSw); (obtain ⟨c1, c2, c3, c4, c5, c6, c7, c8⟩ := HC2.out w hSw; obtain ⟨d0, d1, d2, d3, d4, d5⟩ := box6_cells c7); first | (go_simp; done) | (go_simp; with_reducible rfl))
              refine wpAnyH_take (i := 13) (v := ?v47r10n2q14) rfl (by kernel_rfl) (by kernel_rfl) (by kernel_rfl) (fun _ _ _ h => h) (Or.inl ⟨by kernel_rfl, ?hy47r10n2q14⟩) (by assumption) ?hr47r10n2q14
              case hy47r10n2q14 => (intro w hSw; (try dsimp only at hSw); (obtain ⟨c1, c2, c3, c4, c5, c6, c7, c8⟩ := HC2.out w hSw; obtain ⟨d0, d1, d2, d3, d4, d5⟩ := box6_cells c7); first | (go_simp; done) | (go_simp; with_reducible rfl))
              refine wpAnyH_take (i := 14) (v := ?v47r10n2q15) rfl (by kernel_rfl) (by kernel_rfl) (by kernel_rfl) (fun _ _ _ h => h) (Or.inl ⟨by kernel_rfl, ?hy47r10n2q15⟩) (by assumption) ?hr47r10n2q15
              case hy47r10n2q15 => (intro w hSw; (try dsimp only at hSw); (obtain ⟨c1, c2, c3, c4, c5, c6, c7, c8⟩ := HC2.out w hSw; obtain ⟨d0, d1, d2, d3, d4, d5⟩ := box6_cells c7); first | (go_simp; done) | (go_simp; with_reducible rfl))
              refine wpAnyH_ready (rs := [15]) (by kernel_rfl) (by simp) (AllReadyH.cons rfl (fun K hK => ?hc47r10n2q16) AllReadyH.nil)
              go_simp
              (go_at_call 12; refine (HCOST0.out _).mono ?_; rintro e w8 ⟨rfl, hb8⟩; (try dsimp only))
              refine hK.out _ _ ?hs47r10n2q16 (fun hHeld47r10n2q16 => ?ht47r10n2q16)
              case hs47r10n2q16 => ((try dsimp only); (first | exact hHeld.below hb8))
              clear hHeld hK
              have hHeld := hHeld47r10n2q16
              clear hHeld47r10n2q16
              refine wpAnyH_take (i := 16) (v := ?v47r10n2q17) rfl (by kernel_rfl) (by kernel_rfl) (by kernel_rfl) (fun _ _ _ h => h) (Or.inl ⟨by kernel_rfl, ?hy47r10n2q17⟩) (by assumption) ?hr47r10n2q17
              case hy47r10n2q17 => (intro w hSw; (try dsimp only at hSw); (obtain ⟨c1, c2, c3, c4, c5, c6, c7, c8⟩ := HC2.out w hSw; obtain ⟨d0, d1, d2, d3, d4, d5⟩ := box6_cells c7); first | (go_simp; done) | (go_simp; with_reducible rfl))
              refine wpAnyH_take (i := 17) (v := ?v47r10n2q18) rfl (by kernel_rfl) (by kernel_rfl) (by kernel_rfl) (fun _ _ _ h => h) (Or.inl ⟨by kernel_rfl, ?hy47r10n2q18⟩) (by assumption) ?hr47r10n2q18
              case hy47r10n2q18 => (intro w hSw; (try dsimp only at hSw); (obtain ⟨c1, c2, c3, c4, c5, c6, c7, c8⟩ := HC2.out w hSw; obtain ⟨d0, d1, d2, d3, d4, d5⟩ := box6_cells c7); first | (go_simp; done) | (go_simp; with_reducible rfl))
              refine wpAnyH_done (by kernel_rfl) ?_ _
              clear hHeld
              exact hKK _ _ ⟨by kernel_rfl, by kernel_rfl, by kernel_rfl, by kernel_rfl, by kernel_rfl, by kernel_rfl, by kernel_rfl, by kernel_rfl, by kernel_rfl, by kernel_rfl, by kernel_rfl, by rw [HI2.out]; kernel_rfl, ((Turned.refl _ _).drew).below hb8⟩
            · rw [decide_eq_false hik] at hsq hsq2
              have HI2 : Hid (b1 = false) := hidep (by rw [HB1.out, decide_eq_false hik]; rfl)
              clear hik
              refine wpIn_region_round (S := (fun X => Turned (fun _ => False) Wb X)) (by kernel_rfl) (by kernel_rfl) (by rintro ⟨_, _, h⟩; exact h) ?hS47r10n3 (fun hHeld => ?hR47r10n3)
              case hS47r10n3 => ((try dsimp only); (exact (Turned.refl _ _).drew))
              refine wpAnyH_take (i := 0) (v := ?v47r10n3q1) rfl (by kernel_rfl) (by kernel_rfl) (by kernel_rfl) (fun _ _ _ h => h) (Or.inl ⟨by kernel_rfl, ?hy47r10n3q1⟩) (by assumption) ?hr47r10n3q1
              case hy47r10n3q1 => (intro w hSw; (try dsimp only at hSw); (obtain ⟨c1, c2, c3, c4, c5, c6, c7, c8⟩ := HC2.out w hSw); first | (go_simp; done) | (go_simp; with_reducible rfl))
              refine wpAnyH_take (i := 1) (v := ?v47r10n3q2) rfl (by kernel_rfl) (by kernel_rfl) (by kernel_rfl) (fun _ _ _ h => h) (Or.inl ⟨by kernel_rfl, ?hy47r10n3q2⟩) (by assumption) ?hr47r10n3q2
              case hy47r10n3q2 => (intro w hSw; (try dsimp only at hSw); (obtain ⟨c1, c2, c3, c4, c5, c6, c7, c8⟩ := HC2.out w hSw); first | (go_simp; done) | (go_simp; with_reducible rfl))
              refine wpAnyH_take (i := 2) (v := ?v47r10n3q3) rfl (by kernel_rfl) (by kernel_rfl) (by kernel_rfl) (fun _ _ _ h => h) (Or.inl ⟨by kernel_rfl, ?hy47r10n3q3⟩) (by assumption) ?hr47r10n3q3
              case hy47r10n3q3 => (intro w hSw; (try dsimp only at hSw); (obtain ⟨c1, c2, c3, c4, c5, c6, c7, c8⟩ := HC2.out w hSw); first | (go_simp; done) | (go_simp; with_reducible rfl))
              refine wpAnyH_take (i := 3) (v := ?v47r10n3q4) rfl (by kernel_rfl) (by kernel_rfl) (by kernel_rfl) (fun _ _ _ h => h) (Or.inl ⟨by kernel_rfl, ?hy47r10n3q4⟩) (by assumption) ?hr47r10n3q4
              case hy47r10n3q4 => (intro w hSw; (try dsimp only at hSw); (obtain ⟨c1, c2, c3, c4, c5, c6, c7, c8⟩ := HC2.out w hSw); first | (go_simp; done) | (go_simp; with_reducible rfl))
              refine wpAnyH_take (i := 4) (v := ?v47r10n3q5) rfl (by kernel_rfl) (by kernel_rfl) (by kernel_rfl) (fun _ _ _ h => h) (Or.inl ⟨by kernel_rfl, ?hy47r10n3q5⟩) (by assumption) ?hr47r10n3q5
              case hy47r10n3q5 => (intro w hSw; (try dsimp only at hSw); (obtain ⟨c1, c2, c3, c4, c5, c6, c7, c8⟩ := HC2.out w hSw); first | (go_simp; done) | (go_simp; with_reducible rfl))
              refine wpAnyH_take (i := 5) (v := undef) rfl (by kernel_rfl) (by kernel_rfl) (by kernel_rfl) (fun _ _ _ h => h) (Or.inr ⟨by kernel_rfl, rfl⟩) (by assumption) ?_
              refine wpAnyH_take (i := 6) (v := undef) rfl (by kernel_rfl) (by kernel_rfl) (by kernel_rfl) (fun _ _ _ h => h) (Or.inr ⟨by kernel_rfl, rfl⟩) (by assumption) ?_
              refine wpAnyH_take (i := 7) (v := undef) rfl (by kernel_rfl) (by kernel_rfl) (by kernel_rfl) (fun _ _ _ h => h) (Or.inr ⟨by kernel_rfl, rfl⟩) (by assumption) ?_
              refine wpAnyH_take (i := 8) (v := undef) rfl (by kernel_rfl) (by kernel_rfl) (by kernel_rfl) (fun _ _ _ h => h) (Or.inr ⟨by kernel_rfl, rfl⟩) (by assumption) ?_
              refine wpAnyH_take (i := 9) (v := undef) rfl (by kernel_rfl) (by kernel_rfl) (by kernel_rfl) (fun _ _ _ h => h) (Or.inr ⟨by kernel_rfl, rfl⟩) (by assumption) ?_
              refine wpAnyH_take (i := 10) (v := undef) rfl (by kernel_rfl) (by kernel_rfl) (by kernel_rfl) (fun _ _ _ h => h) (Or.inr ⟨by kernel_rfl, rfl⟩) (by assumption) ?_
              refine wpAnyH_take (i := 11) (v := undef) rfl (by kernel_rfl) (by kernel_rfl) (by kernel_rfl) (fun _ _ _ h => h) (Or.inr ⟨by kernel_rfl, rfl⟩) (by assumption) ?_
              refine wpAnyH_take (i := 12) (v := undef) rfl (by kernel_rfl) (by kernel_rfl) (by kernel_rfl) (fun _ _ _ h => h) (Or.inr ⟨by kernel_rfl, rfl⟩) (by assumption) ?_
              refine wpAnyH_take (i := 13) (v := undef) rfl (by kernel_rfl) (by kernel_rfl) (by kernel_rfl) (fun _ _ _ h => h) (Or.inr ⟨by kernel_rfl, rfl⟩) (by assumption) ?_
              refine wpAnyH_take (i := 14) (v := undef) rfl (by kernel_rfl) (by kernel_rfl) (by kernel_rfl) (fun _ _ _ h => h) (Or.inr ⟨by kernel_rfl, rfl⟩) (by assumption) ?_
              refine wpAnyH_ready (rs := [15]) (by kernel_rfl) (by simp) (AllReadyH.cons rfl (fun K hK => ?hc47r10n3q16) AllReadyH.nil)
              first | rw [if_neg (ne_true_of_eq_false (by kernel_rfl))] | rw [if_neg (by decide)]
              refine hK.out _ _ ?hs47r10n3q16 (fun hHeld47r10n3q16 => ?ht47r10n3q16)
              case hs47r10n3q16 => ((try dsimp only); (first | (with_reducible exact hHeld)))
              clear hHeld hK
              have hHeld := hHeld47r10n3q16
              clear hHeld47r10n3q16
              refine wpAnyH_take (i := 16) (v := undef) rfl (by kernel_rfl) (by kernel_rfl) (by kernel_rfl) (fun _ _ _ h => h) (Or.inr ⟨by kernel_rfl, rfl⟩) (by assumption) ?_
              refine wpAnyH_take (i := 17) (v := ?v47r10n3q18) rfl (by kernel_rfl) (by kernel_rfl) (by kernel_rfl) (fun _ _ _ h => h) (Or.inl ⟨by kernel_rfl, ?hy47r10n3q18⟩) (by assumption) ?hr47r10n3q18
              case hy47r10n3q18 => (intro w hSw; (try dsimp only at hSw); (obtain ⟨c1, c2, c3, c4, c5, c6, c7, c8⟩ := HC2.out w hSw); first | (go_simp; done) | (go_simp; with_reducible rfl))
              refine wpAnyH_done (by kernel_rfl) ?_ _
              clear hHeld
              exact hKK _ _ ⟨by kernel_rfl, by kernel_rfl, by kernel_rfl, by kernel_rfl, by kernel_rfl, by kernel_rfl, by kernel_rfl, by kernel_rfl, by kernel_rfl, by kernel_rfl, by kernel_rfl, by rw [HI2.out]; kernel_rfl, (Turned.refl _ _).drew⟩
          case j2 =>
            rintro ⟨tm9, ds9⟩ Wc ⟨h95, hds, e4, e5, e6, e7, e8, e9, e10, e11, e12, e59, hTc⟩
            dsimp only at h95 hds e4 e5 e6 e7 e8 e9 e10 e11 e12 e59
            subst hds
            apply_assumption
            rw [frame95 tm9 [] h95, e4, e5, e6, e7, e8, e9, e10, e11, e12, e59]
            clear h95 e4 e5 e6 e7 e8 e9 e10 e11 e12 e59 hsq hsq2
            obtain ⟨d1, d2, d3, d4, d5, d6, d7, d8⟩ := HC2.out Wc hTc
            have g7c : Turned (fun _ => False) w7 Wc := (HG4.out.trans HG3.out).trans hTc
            have gWc : Turned (fun _ => False) W Wc := HG3.out.trans hTc
            have g0c : Turned (fun _ => False) W0 Wc := (HG2.out.trans HG3.out).trans hTc
            cases b1 with
            | true =>
              have hq4c := g0c.cells HQ4.out id
              have f4 : Wc.frozen? ⟨B + 1 + 1 + 1 + 1, 0, none⟩ = false := by simp [World.frozen?, hq4c]
              have c4 : Wc.cell? ⟨B + 1 + 1 + 1 + 1, 0, none⟩ = some (.bool false) := box1_cell hq4c
              have hbad : Hid (okK way (needL pl need) tt i k = false) := hidep (by
                have h := HB1.out
                rw [HCV.out, HTV.out, eq_comm] at h
                unfold okK
                rw [HLI.out, h]
                rfl)
              have H1 := hidep (show ∀ v, Turned (fun b => b = B + 4) w7 (Wc.setCell ⟨B + 1 + 1 + 1 + 1, 0, none⟩ v) from fun v => (g7c.mono (fun _ _ h => h.elim)).trans ((Turned.refl (fun b => b = B + 4) Wc).setCell ⟨B + 1 + 1 + 1 + 1, 0, none⟩ v (.inr rfl)))
              have H2 := hidep (show ∀ v, KeepsFrom w7.heap.size W (Wc.setCell ⟨B + 1 + 1 + 1 + 1, 0, none⟩ v) from fun v => ((gWc.mono (fun _ _ h => h.elim)).trans ((Turned.refl (fun b => b = B + 4) Wc).setCell ⟨B + 1 + 1 + 1 + 1, 0, none⟩ v (.inr rfl))).from (fun b hb h => by have := HSB.out; omega))
              have H3 := hidep (heap_set hq4c 0 (.bool false))
              clear hq4c g7c gWc g0c
              gi_wp2
              exact ⟨H2.out _, rfl, ⟨k, HKM.out, hbad.out⟩, H1.out _, H3.out⟩
            | false =>
              have hokj : Hid (okK way (needL pl need) tt i k = (othersL i n (k : Nat)).all fun j => !decide (cellT tt (i - 2 ^ k) j + costZ way (lp (needL pl need) j) ⟨t0, t1, t2, t3, t4, t5⟩ < tv)) := hidep (by
                have h := HB1.out
                rw [HCV.out, HTV.out, eq_comm] at h
                unfold okK
                rw [HLI.out, h, HNL.out, HNN.out, HTV.out]
                rfl)
              have H6 := hidep (hTc.cells HG6.out id)
              have hlc := gWc.cells HLR.out id
              clear d1 d2 d5 d6 d7
              gi_wp2_with (refine ⟨trivial, ?_⟩; gi_at_call 40; refine (callsIn_round (others_any i n (k : Nat) _)).mono ?_; rintro e w9 ⟨rfl, hO9, hs9, hb9⟩)
              have hTc9 : Turned (fun _ => False) Wc w9 := Turned.of_below hb9
              have hl9 := hTc9.cells hlc id
              have hsW : w7.heap.size ≤ W.heap.size := HG4.out.size
              have hsc := gWc.size
              have hs9' := hTc9.size
              have HT9 := hidep hTc9
              have HTC := hidep hTc
              have G7C := hidep g7c
              have GWC := hidep gWc
              have G0C := hidep g0c
              clear hb9 hTc9 g7c gWc g0c hTc hlc d3 d4 d8
              refine wpIn_rangeFunc_ownN (l₀ := l) (r₀ := rl) rfl hl9 (by omega) (gf := 61) (lb := _) rfl hfc (enters_of Try.func61 (by kernel_rfl) rfl) ((others_stops (8 - 1 - 1 - 1) (by omega) _ i n (k : Nat) (by omega) hn8 (by omega) (by omega) w9 hO9).inRound l) (fun h k => Kp3.trans h k) (Kp3.putObj (n := w9.heap.size) (by omega)) (Below.refl _ _) (fun _ => rfl)
                (fun pre' W' => (∀ y ∈ othV pre', (!decide (cellT tt (i - 2 ^ k) y + costZ way (lp (needL pl need) y) ⟨t0, t1, t2, t3, t4, t5⟩ < tv)) = true) ∧ Turned (fun _ => False) w9 W')
                (fun cd pre' W' => cd = .ret ∧ okK way (needL pl need) tt i k = false ∧ Turned (fun b => b = B + 4) w9 W' ∧ W'.heap[B + 4]? = some (.cells #[.bool false] 4))
                (fun st A A' row hs hg hr => ⟨hs.1, hs.2.own hg (fun r e => (hr r e).1)⟩)
                (fun cd st A A' row hs hg hr => ⟨hs.1, hs.2.1, hs.2.2.1.own hg (fun r e => (hr r e).1), (hg.block _ (lt_of_block hs.2.2.2) (fun e => by have := (hr _ e.symm).1; have := HSB.out; omega)).trans hs.2.2.2⟩)
                ⟨fun y hy => (by cases hy), Turned.refl _ _⟩
                (fun x a' _ => a'.tmps.size = 95 ∧ a'.defers = [] ∧ slot a'.tmps 4 = .pointer (some ⟨B, 0, none⟩) ∧ slot a'.tmps 5 = .pointer (some ⟨B + 1, 0, none⟩) ∧ slot a'.tmps 6 = .pointer (some ⟨B + 1 + 1, 0, none⟩) ∧ slot a'.tmps 7 = .pointer (some ⟨B + 1 + 1 + 1, 0, none⟩) ∧ slot a'.tmps 8 = .pointer (some ⟨B + 1 + 1 + 1 + 1, 0, none⟩) ∧ slot a'.tmps 10 = .pointer (some ⟨p9, 0, none⟩) ∧ slot a'.tmps 11 = .pointer (some ⟨Bx, 0, none⟩) ∧ slot a'.tmps 12 = .pointer (some ⟨W.heap.size, 0, none⟩) ∧ slot a'.tmps 13 = .int .i64 (x.1 : Nat))
                (fun _ _ _ _ _ _ hs _ _ => hs)
                ?assign2 ?body2 ?done2 ?stop2
              case assign2 =>
                rintro l2 pre2 x2 W2 K hI hK
                obtain ⟨j, hjm⟩ := x2
                gi_wp2
                exact hK _ _ (KeepsFrom.refl _ _) (Kp3.refl _ _) hI ⟨by kernel_rfl, by kernel_rfl, by kernel_rfl, by kernel_rfl, by kernel_rfl, by kernel_rfl, by kernel_rfl, by kernel_rfl, by kernel_rfl, by kernel_rfl, by kernel_rfl⟩
              case body2 =>
                rintro l2 pre2 x2 ⟨tm2, ds2⟩ W2 hl2 _ ⟨hall2, hT2⟩ ⟨h95, hds, h4, h5, h6, h7, h8, h10', h11, h12, h13⟩ hlen3
                obtain ⟨j, hjm⟩ := x2
                obtain ⟨hjn, _, hjb⟩ := othersL_mem.1 hjm
                have HJM := hidep hjm
                have HALL3 := hidep hall2
                dsimp only at h95 hds h4 h5 h6 h7 h8 h10' h11 h12 h13
                subst hds
                rw [frame95 tm2 [] h95, h4, h5, h6, h7, h8, h10', h11, h12, h13]
                clear h95 h4 h5 h6 h7 h8 h10' h11 h12 h13 hall2
                have hjl : j < need.length := by rw [HNN.out]; exact hjn
                obtain ⟨pj, hpj, hnj, hlj⟩ := needL_get HNEED.out hjl
                have hnw : IntsAt W0 (.slice (some ⟨nb, no, none⟩) need.length d) need := by rw [HNN.out]; exact HNB.out
                obtain ⟨nb2, no2, hne2, _, hnc⟩ := ints_get hnw hjl
                injection hne2 with hne2
                injection hne2 with hx1 hx2
                subst hx1 hx2
                obtain ⟨pb2, po2, hpe2, _, p0, p1, p2, p3, p4, p5⟩ := PlacesAt.at HPB.out hpj
                injection hpe2 with hpe2
                injection hpe2 with hx1 hx2
                subst hx1 hx2
                obtain ⟨ie, hie⟩ : ∃ ie, ie = i - 2 ^ k := ⟨_, rfl⟩
                have hien : ie < N := by rw [hie]; exact Nat.lt_of_le_of_lt (Nat.sub_le _ _) hlt
                obtain ⟨tb2, tp2, ub2, uo2, uc2, hte2, ht3, ht4, huc2, hum2⟩ := tab_cell HTB.out HROW.out (s := ie) (k := j) (by rw [← HN3.out]; exact hien) hjn
                injection hte2 with hte2
                injection hte2 with hx1 hx2
                subst hx1 hx2
                unfold maxLen at hum2
                rw [hnj] at hnc
                have hpjk := lp_ok (needL_ok hok (need := need)) j
                have HLJ := hidep hlj
                rw [hlj] at hpjk
                generalize pl[pj] = tq2 at *
                obtain ⟨s0, s1, s2, s3, s4, s5⟩ := tq2
                simp only at p0 p1 p2 p3 p4 p5
                have hpj0 : (0 : Int) ≤ (pj : Int) := by omega
                have hpj1 : (pj : Int) < (pl.length : Int) := by omega
                have hj0 : (0 : Int) ≤ (j : Int) := by omega
                have hj1 : (j : Int) < (n : Int) := by omega
                have hie0 : (0 : Int) ≤ (ie : Int) := by omega
                have hie1 : (ie : Int) < (N : Int) := by omega
                have han : bits BinOp.andNot IntKind.i64 ((i : Nat) : Int) (IntKind.i64.wrap (2 ^ min k 64)) = ((ie : Nat) : Int) := by rw [hie]; exact andNot_bit i i256 k (by omega) HKB.out
                have han2 : bits BinOp.andNot IntKind.i64 ((i : Nat) : Int) (IntKind.i64.wrap (2 ^ k)) = ((ie : Nat) : Int) := by rw [← han, Nat.min_eq_left (by omega)]
                have hvb := cellT_bd HTT.out (by omega) (by omega) ie j
                have hcb2 := costZ_bd (way := way) hpjk hpk
                obtain ⟨tv2, htv2⟩ : ∃ tv2, tv2 = cellT tt ie j := ⟨_, rfl⟩
                obtain ⟨cv2, hcv2⟩ : ∃ cv2, cv2 = costZ way ⟨s0, s1, s2, s3, s4, s5⟩ ⟨t0, t1, t2, t3, t4, t5⟩ := ⟨_, rfl⟩
                rw [← htv2] at hvb ht4
                rw [← hcv2] at hcb2
                have hwr : IntKind.i64.wrap (tv2 + cv2) = tv2 + cv2 := IntWalk.i64_in _ (by omega)
                have HCJ := hidep (show ∀ X, Calls Try.prog 12 #[.int .i64 way, plV ⟨s0, s1, s2, s3, s4, s5⟩, plV ⟨t0, t1, t2, t3, t4, t5⟩] X _ from fun X => rcost_any way ⟨s0, s1, s2, s3, s4, s5⟩ ⟨t0, t1, t2, t3, t4, t5⟩ X hpjk hpk)
                rw [← hcv2] at HCJ
                have HJ := hidep (show (!decide (cellT tt (i - 2 ^ k) j + costZ way (lp (needL pl need) j) ⟨t0, t1, t2, t3, t4, t5⟩ < tv)) = !decide (tv2 + cv2 < tv) by rw [HLJ.out, ← hie, ← htv2, ← hcv2])
                have HC3 := hidep (show ∀ X, Turned (fun _ => False) W2 X → X.cell? ⟨B, 0, none⟩ = some (.int .i64 way) ∧ X.cell? ⟨B + 1, 0, none⟩ = some (.slice (some ⟨pb, po, none⟩) pl.length c) ∧ X.cell? ⟨B + 1 + 1, 0, none⟩ = some (.slice (some ⟨nb, no, none⟩) n d) ∧
                    X.cell? ⟨B + 1 + 1 + 1, 0, none⟩ = some (.slice (some ⟨tb, tp, none⟩) N f) ∧ X.cell? ⟨p9, 0, none⟩ = some (.int .i64 (i : Nat)) ∧ X.cell? ⟨Bx, 0, none⟩ = some (.int .i64 (k : Nat)) ∧ X.cell? ⟨tb, tp + i, none⟩ = some (.slice (some ⟨ub, uo, none⟩) n uc) ∧ X.cell? ⟨ub, uo + k, none⟩ = some (.int .i64 tv) ∧
                    X.heap[W.heap.size]? = some (.cells #[.int .i64 t0, .int .i64 t1, .int .i64 t2, .int .i64 t3, .int .i64 t4, .int .i64 t5] 26) from fun X hX => by
                  have hWX := HT9.out.trans (hT2.trans hX)
                  have hBX : Turned (fun _ => False) Wb X := HTC.out.trans hWX
                  have h0X := HG2.out.trans (HG3.out.trans hBX)
                  obtain ⟨y1, y2, y3, y4, y5, y6, y7, y8⟩ := HC2.out X hBX
                  exact ⟨y1, (HC1.out X (HG3.out.trans hBX)).1, (HC1.out X (HG3.out.trans hBX)).2.1, y2, y3, y4, y5, y6, y7⟩)
                have HC4 := hidep (show ∀ X, Turned (fun _ => False) W2 X → X.cell? ⟨tb, tp + ie, none⟩ = some (.slice (some ⟨ub2, uo2, none⟩) n uc2) ∧ X.cell? ⟨ub2, uo2 + j, none⟩ = some (.int .i64 tv2) ∧ X.cell? ⟨nb, no + j, none⟩ = some (.int .i64 (pj : Nat)) ∧ X.cell? ⟨pb, po + pj * 6, none⟩ = some (.int .i64 s0) ∧ X.cell? ⟨pb, po + pj * 6 + 1, none⟩ = some (.int .i64 s1) ∧ X.cell? ⟨pb, po + pj * 6 + 2, none⟩ = some (.int .i64 s2) ∧
                    X.cell? ⟨pb, po + pj * 6 + 3, none⟩ = some (.int .i64 s3) ∧ X.cell? ⟨pb, po + pj * 6 + 4, none⟩ = some (.int .i64 s4) ∧ X.cell? ⟨pb, po + pj * 6 + 5, none⟩ = some (.int .i64 s5) from fun X hX => by
                  have hh := G0C.out.trans (HT9.out.trans (hT2.trans hX))
                  exact ⟨hh.cell ht3 id, hh.cell ht4 id, hh.cell hnc id, hh.cell p0 id, hh.cell p1 id, hh.cell p2 id, hh.cell p3 id, hh.cell p4 id, hh.cell p5 id⟩)
                have HT2 := hidep hT2
                have HIE := hidep hie
                obtain ⟨b2, hb2⟩ : ∃ b2, b2 = decide (tv2 + cv2 < tv) := ⟨_, rfl⟩
                have HB2 := hidep hb2
                rw [← hb2] at HJ
                clear hnw hnc ht3 ht4 p0 p1 p2 p3 p4 p5 htv2 hcv2 hie hb2 hT2 hO9 hl9 hpjk hjb
                gi_wp2
                refine wpIn_region_round (S := (fun X => Turned (fun _ => False) W2 X)) (by kernel_rfl) (by kernel_rfl) (by rintro ⟨_, _, h⟩; exact h) ?hS47r14n4 (fun hHeld => ?hR47r14n4)
                case hS47r14n4 => ((try dsimp only); (exact (Turned.refl _ _).drew))
                refine wpAnyH_take (i := 0) (v := ?v47r14n4q1) rfl (by kernel_rfl) (by kernel_rfl) (by kernel_rfl) (fun _ _ _ h => h) (Or.inl ⟨by kernel_rfl, ?hy47r14n4q1⟩) (by assumption) ?hr47r14n4q1
                case hy47r14n4q1 => (intro w hSw; (try dsimp only at hSw); (obtain ⟨c1, c2, c3, c4, c5, c6, c7, c8, c9⟩ := HC3.out w hSw; obtain ⟨g1, g2, g3, g4, g5, g6, g7, g8, g9⟩ := HC4.out w hSw; obtain ⟨d0, d1, d2, d3, d4, d5⟩ := box6_cells c9); first | (go_simp; done) | (go_simp; with_reducible rfl))
                refine wpAnyH_take (i := 1) (v := ?v47r14n4q2) rfl (by kernel_rfl) (by kernel_rfl) (by kernel_rfl) (fun _ _ _ h => h) (Or.inl ⟨by kernel_rfl, ?hy47r14n4q2⟩) (by assumption) ?hr47r14n4q2
                case hy47r14n4q2 => (intro w hSw; (try dsimp only at hSw); (obtain ⟨c1, c2, c3, c4, c5, c6, c7, c8, c9⟩ := HC3.out w hSw; obtain ⟨g1, g2, g3, g4, g5, g6, g7, g8, g9⟩ := HC4.out w hSw; obtain ⟨d0, d1, d2, d3, d4, d5⟩ := box6_cells c9); first | (go_simp; done) | (go_simp; with_reducible rfl))
                refine wpAnyH_take (i := 2) (v := ?v47r14n4q3) rfl (by kernel_rfl) (by kernel_rfl) (by kernel_rfl) (fun _ _ _ h => h) (Or.inl ⟨by kernel_rfl, ?hy47r14n4q3⟩) (by assumption) ?hr47r14n4q3
                case hy47r14n4q3 => (intro w hSw; (try dsimp only at hSw); (obtain ⟨c1, c2, c3, c4, c5, c6, c7, c8, c9⟩ := HC3.out w hSw; obtain ⟨g1, g2, g3, g4, g5, g6, g7, g8, g9⟩ := HC4.out w hSw; obtain ⟨d0, d1, d2, d3, d4, d5⟩ := box6_cells c9); first | (go_simp; done) | (go_simp; with_reducible rfl))
                refine wpAnyH_take (i := 3) (v := ?v47r14n4q4) rfl (by kernel_rfl) (by kernel_rfl) (by kernel_rfl) (fun _ _ _ h => h) (Or.inl ⟨by kernel_rfl, ?hy47r14n4q4⟩) (by assumption) ?hr47r14n4q4
                case hy47r14n4q4 => (intro w hSw; (try dsimp only at hSw); (obtain ⟨c1, c2, c3, c4, c5, c6, c7, c8, c9⟩ := HC3.out w hSw; obtain ⟨g1, g2, g3, g4, g5, g6, g7, g8, g9⟩ := HC4.out w hSw; obtain ⟨d0, d1, d2, d3, d4, d5⟩ := box6_cells c9); first | (go_simp; done) | (go_simp; with_reducible rfl))
                refine wpAnyH_take (i := 4) (v := ?v47r14n4q5) rfl (by kernel_rfl) (by kernel_rfl) (by kernel_rfl) (fun _ _ _ h => h) (Or.inl ⟨by kernel_rfl, ?hy47r14n4q5⟩) (by assumption) ?hr47r14n4q5
                case hy47r14n4q5 => (intro w hSw; (try dsimp only at hSw); (obtain ⟨c1, c2, c3, c4, c5, c6, c7, c8, c9⟩ := HC3.out w hSw; obtain ⟨g1, g2, g3, g4, g5, g6, g7, g8, g9⟩ := HC4.out w hSw; obtain ⟨d0, d1, d2, d3, d4, d5⟩ := box6_cells c9); first | (go_simp; done) | (go_simp; with_reducible rfl))
                refine wpAnyH_take (i := 5) (v := ?v47r14n4q6) rfl (by kernel_rfl) (by kernel_rfl) (by kernel_rfl) (fun _ _ _ h => h) (Or.inl ⟨by kernel_rfl, ?hy47r14n4q6⟩) (by assumption) ?hr47r14n4q6
                case hy47r14n4q6 => (intro w hSw; (try dsimp only at hSw); (obtain ⟨c1, c2, c3, c4, c5, c6, c7, c8, c9⟩ := HC3.out w hSw; obtain ⟨g1, g2, g3, g4, g5, g6, g7, g8, g9⟩ := HC4.out w hSw; obtain ⟨d0, d1, d2, d3, d4, d5⟩ := box6_cells c9); first | (go_simp; done) | (go_simp; with_reducible rfl))
                refine wpAnyH_take (i := 6) (v := ?v47r14n4q7) rfl (by kernel_rfl) (by kernel_rfl) (by kernel_rfl) (fun _ _ _ h => h) (Or.inl ⟨by kernel_rfl, ?hy47r14n4q7⟩) (by assumption) ?hr47r14n4q7
                case hy47r14n4q7 => (intro w hSw; (try dsimp only at hSw); (obtain ⟨c1, c2, c3, c4, c5, c6, c7, c8, c9⟩ := HC3.out w hSw; obtain ⟨g1, g2, g3, g4, g5, g6, g7, g8, g9⟩ := HC4.out w hSw; obtain ⟨d0, d1, d2, d3, d4, d5⟩ := box6_cells c9); first | (go_simp; done) | (go_simp; with_reducible rfl))
                refine wpAnyH_take (i := 7) (v := ?v47r14n4q8) rfl (by kernel_rfl) (by kernel_rfl) (by kernel_rfl) (fun _ _ _ h => h) (Or.inl ⟨by kernel_rfl, ?hy47r14n4q8⟩) (by assumption) ?hr47r14n4q8
                case hy47r14n4q8 => (intro w hSw; (try dsimp only at hSw); (obtain ⟨c1, c2, c3, c4, c5, c6, c7, c8, c9⟩ := HC3.out w hSw; obtain ⟨g1, g2, g3, g4, g5, g6, g7, g8, g9⟩ := HC4.out w hSw; obtain ⟨d0, d1, d2, d3, d4, d5⟩ := box6_cells c9); first | (go_simp; done) | (go_simp; with_reducible rfl))
                refine wpAnyH_take (i := 8) (v := ?v47r14n4q9) rfl (by kernel_rfl) (by kernel_rfl) (by kernel_rfl) (fun _ _ _ h => h) (Or.inl ⟨by kernel_rfl, ?hy47r14n4q9⟩) (by assumption) ?hr47r14n4q9
                case hy47r14n4q9 => (intro w hSw; (try dsimp only at hSw); (obtain ⟨c1, c2, c3, c4, c5, c6, c7, c8, c9⟩ := HC3.out w hSw; obtain ⟨g1, g2, g3, g4, g5, g6, g7, g8, g9⟩ := HC4.out w hSw; obtain ⟨d0, d1, d2, d3, d4, d5⟩ := box6_cells c9); first | (go_simp; done) | (go_simp; with_reducible rfl))
                refine wpAnyH_take (i := 9) (v := ?v47r14n4q10) rfl (by kernel_rfl) (by kernel_rfl) (by kernel_rfl) (fun _ _ _ h => h) (Or.inl ⟨by kernel_rfl, ?hy47r14n4q10⟩) (by assumption) ?hr47r14n4q10
                case hy47r14n4q10 => (intro w hSw; (try dsimp only at hSw); (obtain ⟨c1, c2, c3, c4, c5, c6, c7, c8, c9⟩ := HC3.out w hSw; obtain ⟨g1, g2, g3, g4, g5, g6, g7, g8, g9⟩ := HC4.out w hSw; obtain ⟨d0, d1, d2, d3, d4, d5⟩ := box6_cells c9); first | (go_simp; done) | (go_simp; with_reducible rfl))
                refine wpAnyH_take (i := 10) (v := ?v47r14n4q11) rfl (by kernel_rfl) (by kernel_rfl) (by kernel_rfl) (fun _ _ _ h => h) (Or.inl ⟨by kernel_rfl, ?hy47r14n4q11⟩) (by assumption) ?hr47r14n4q11
                case hy47r14n4q11 => (intro w hSw; (try dsimp only at hSw); (obtain ⟨c1, c2, c3, c4, c5, c6, c7, c8, c9⟩ := HC3.out w hSw; obtain ⟨g1, g2, g3, g4, g5, g6, g7, g8, g9⟩ := HC4.out w hSw; obtain ⟨d0, d1, d2, d3, d4, d5⟩ := box6_cells c9); first | (go_simp; done) | (go_simp; with_reducible rfl))
                refine wpAnyH_take (i := 11) (v := ?v47r14n4q12) rfl (by kernel_rfl) (by kernel_rfl) (by kernel_rfl) (fun _ _ _ h => h) (Or.inl ⟨by kernel_rfl, ?hy47r14n4q12⟩) (by assumption) ?hr47r14n4q12
                case hy47r14n4q12 => (intro w hSw; (try dsimp only at hSw); (obtain ⟨c1, c2, c3, c4, c5, c6, c7, c8, c9⟩ := HC3.out w hSw; obtain ⟨g1, g2, g3, g4, g5, g6, g7, g8, g9⟩ := HC4.out w hSw; obtain ⟨d0, d1, d2, d3, d4, d5⟩ := box6_cells c9); first | (go_simp; done) | (go_simp; with_reducible rfl))
                refine wpAnyH_take (i := 12) (v := ?v47r14n4q13) rfl (by kernel_rfl) (by kernel_rfl) (by kernel_rfl) (fun _ _ _ h => h) (Or.inl ⟨by kernel_rfl, ?hy47r14n4q13⟩) (by assumption) ?hr47r14n4q13
                case hy47r14n4q13 => (intro w hSw; (try dsimp only at hSw); (obtain ⟨c1, c2, c3, c4, c5, c6, c7, c8, c9⟩ := HC3.out w hSw; obtain ⟨g1, g2, g3, g4, g5, g6, g7, g8, g9⟩ := HC4.out w hSw; obtain ⟨d0, d1, d2, d3, d4, d5⟩ := box6_cells c9); first | (go_simp; done) | (go_simp; with_reducible rfl))
                refine wpAnyH_take (i := 13) (v := ?v47r14n4q14) rfl (by kernel_rfl) (by kernel_rfl) (by kernel_rfl) (fun _ _ _ h => h) (Or.inl ⟨by kernel_rfl, ?hy47r14n4q14⟩) (by assumption) ?hr47r14n4q14
                case hy47r14n4q14 => (intro w hSw; (try dsimp only at hSw); (obtain ⟨c1, c2, c3, c4, c5, c6, c7, c8, c9⟩ := HC3.out w hSw; obtain ⟨g1, g2, g3, g4, g5, g6, g7, g8, g9⟩ := HC4.out w hSw; obtain ⟨d0, d1, d2, d3, d4, d5⟩ := box6_cells c9); first | (go_simp; done) | (go_simp; with_reducible rfl))
                refine wpAnyH_take (i := 14) (v := ?v47r14n4q15) rfl (by kernel_rfl) (by kernel_rfl) (by kernel_rfl) (fun _ _ _ h => h) (Or.inl ⟨by kernel_rfl, ?hy47r14n4q15⟩) (by assumption) ?hr47r14n4q15
                case hy47r14n4q15 => (intro w hSw; (try dsimp only at hSw); (obtain ⟨c1, c2, c3, c4, c5, c6, c7, c8, c9⟩ := HC3.out w hSw; obtain ⟨g1, g2, g3, g4, g5, g6, g7, g8, g9⟩ := HC4.out w hSw; obtain ⟨d0, d1, d2, d3, d4, d5⟩ := box6_cells c9); first | (go_simp; done) | (go_simp; with_reducible rfl))
                refine wpAnyH_take (i := 15) (v := ?v47r14n4q16) rfl (by kernel_rfl) (by kernel_rfl) (by kernel_rfl) (fun _ _ _ h => h) (Or.inl ⟨by kernel_rfl, ?hy47r14n4q16⟩) (by assumption) ?hr47r14n4q16
                case hy47r14n4q16 => (intro w hSw; (try dsimp only at hSw); (obtain ⟨c1, c2, c3, c4, c5, c6, c7, c8, c9⟩ := HC3.out w hSw; obtain ⟨g1, g2, g3, g4, g5, g6, g7, g8, g9⟩ := HC4.out w hSw; obtain ⟨d0, d1, d2, d3, d4, d5⟩ := box6_cells c9); first | (go_simp; done) | (go_simp; with_reducible rfl))
                refine wpAnyH_take (i := 16) (v := ?v47r14n4q17) rfl (by kernel_rfl) (by kernel_rfl) (by kernel_rfl) (fun _ _ _ h => h) (Or.inl ⟨by kernel_rfl, ?hy47r14n4q17⟩) (by assumption) ?hr47r14n4q17
                case hy47r14n4q17 => (intro w hSw; (try dsimp only at hSw); (obtain ⟨c1, c2, c3, c4, c5, c6, c7, c8, c9⟩ := HC3.out w hSw; obtain ⟨g1, g2, g3, g4, g5, g6, g7, g8, g9⟩ := HC4.out w hSw; obtain ⟨d0, d1, d2, d3, d4, d5⟩ := box6_cells c9); first | (go_simp; done) | (go_simp; with_reducible rfl))
                refine wpAnyH_take (i := 17) (v := ?v47r14n4q18) rfl (by kernel_rfl) (by kernel_rfl) (by kernel_rfl) (fun _ _ _ h => h) (Or.inl ⟨by kernel_rfl, ?hy47r14n4q18⟩) (by assumption) ?hr47r14n4q18
                case hy47r14n4q18 => (intro w hSw; (try dsimp only at hSw); (obtain ⟨c1, c2, c3, c4, c5, c6, c7, c8, c9⟩ := HC3.out w hSw; obtain ⟨g1, g2, g3, g4, g5, g6, g7, g8, g9⟩ := HC4.out w hSw; obtain ⟨d0, d1, d2, d3, d4, d5⟩ := box6_cells c9); first | (go_simp; done) | (go_simp; with_reducible rfl))
                refine wpAnyH_take (i := 18) (v := ?v47r14n4q19) rfl (by kernel_rfl) (by kernel_rfl) (by kernel_rfl) (fun _ _ _ h => h) (Or.inl ⟨by kernel_rfl, ?hy47r14n4q19⟩) (by assumption) ?hr47r14n4q19
                case hy47r14n4q19 => (intro w hSw; (try dsimp only at hSw); (obtain ⟨c1, c2, c3, c4, c5, c6, c7, c8, c9⟩ := HC3.out w hSw; obtain ⟨g1, g2, g3, g4, g5, g6, g7, g8, g9⟩ := HC4.out w hSw; obtain ⟨d0, d1, d2, d3, d4, d5⟩ := box6_cells c9); first | (go_simp; done) | (go_simp; with_reducible rfl))
                refine wpAnyH_take (i := 19) (v := ?v47r14n4q20) rfl (by kernel_rfl) (by kernel_rfl) (by kernel_rfl) (fun _ _ _ h => h) (Or.inl ⟨by kernel_rfl, ?hy47r14n4q20⟩) (by assumption) ?hr47r14n4q20
                case hy47r14n4q20 => (intro w hSw; (try dsimp only at hSw); (obtain ⟨c1, c2, c3, c4, c5, c6, c7, c8, c9⟩ := HC3.out w hSw; obtain ⟨g1, g2, g3, g4, g5, g6, g7, g8, g9⟩ := HC4.out w hSw; obtain ⟨d0, d1, d2, d3, d4, d5⟩ := box6_cells c9); first | (go_simp; done) | (go_simp; with_reducible rfl))
                refine wpAnyH_take (i := 20) (v := ?v47r14n4q21) rfl (by kernel_rfl) (by kernel_rfl) (by kernel_rfl) (fun _ _ _ h => h) (Or.inl ⟨by kernel_rfl, ?hy47r14n4q21⟩) (by assumption) ?hr47r14n4q21
                case hy47r14n4q21 => (intro w hSw; (try dsimp only at hSw); (obtain ⟨c1, c2, c3, c4, c5, c6, c7, c8, c9⟩ := HC3.out w hSw; obtain ⟨g1, g2, g3, g4, g5, g6, g7, g8, g9⟩ := HC4.out w hSw; obtain ⟨d0, d1, d2, d3, d4, d5⟩ := box6_cells c9); first | (go_simp; done) | (go_simp; with_reducible rfl))
                refine wpAnyH_take (i := 21) (v := ?v47r14n4q22) rfl (by kernel_rfl) (by kernel_rfl) (by kernel_rfl) (fun _ _ _ h => h) (Or.inl ⟨by kernel_rfl, ?hy47r14n4q22⟩) (by assumption) ?hr47r14n4q22
                case hy47r14n4q22 => (intro w hSw; (try dsimp only at hSw); (obtain ⟨c1, c2, c3, c4, c5, c6, c7, c8, c9⟩ := HC3.out w hSw; obtain ⟨g1, g2, g3, g4, g5, g6, g7, g8, g9⟩ := HC4.out w hSw; obtain ⟨d0, d1, d2, d3, d4, d5⟩ := box6_cells c9); first | (go_simp; done) | (go_simp; with_reducible rfl))
                refine wpAnyH_take (i := 22) (v := ?v47r14n4q23) rfl (by kernel_rfl) (by kernel_rfl) (by kernel_rfl) (fun _ _ _ h => h) (Or.inl ⟨by kernel_rfl, ?hy47r14n4q23⟩) (by assumption) ?hr47r14n4q23
                case hy47r14n4q23 => (intro w hSw; (try dsimp only at hSw); (obtain ⟨c1, c2, c3, c4, c5, c6, c7, c8, c9⟩ := HC3.out w hSw; obtain ⟨g1, g2, g3, g4, g5, g6, g7, g8, g9⟩ := HC4.out w hSw; obtain ⟨d0, d1, d2, d3, d4, d5⟩ := box6_cells c9); first | (go_simp; done) | (go_simp; with_reducible rfl))
                refine wpAnyH_take (i := 23) (v := ?v47r14n4q24) rfl (by kernel_rfl) (by kernel_rfl) (by kernel_rfl) (fun _ _ _ h => h) (Or.inl ⟨by kernel_rfl, ?hy47r14n4q24⟩) (by assumption) ?hr47r14n4q24
                case hy47r14n4q24 => (intro w hSw; (try dsimp only at hSw); (obtain ⟨c1, c2, c3, c4, c5, c6, c7, c8, c9⟩ := HC3.out w hSw; obtain ⟨g1, g2, g3, g4, g5, g6, g7, g8, g9⟩ := HC4.out w hSw; obtain ⟨d0, d1, d2, d3, d4, d5⟩ := box6_cells c9); first | (go_simp; done) | (go_simp; with_reducible rfl))
                refine wpAnyH_take (i := 24) (v := ?v47r14n4q25) rfl (by kernel_rfl) (by kernel_rfl) (by kernel_rfl) (fun _ _ _ h => h) (Or.inl ⟨by kernel_rfl, ?hy47r14n4q25⟩) (by assumption) ?hr47r14n4q25
                case hy47r14n4q25 => (intro w hSw; (try dsimp only at hSw); (obtain ⟨c1, c2, c3, c4, c5, c6, c7, c8, c9⟩ := HC3.out w hSw; obtain ⟨g1, g2, g3, g4, g5, g6, g7, g8, g9⟩ := HC4.out w hSw; obtain ⟨d0, d1, d2, d3, d4, d5⟩ := box6_cells c9); first | (go_simp; done) | (go_simp; with_reducible rfl))
                refine wpAnyH_take (i := 25) (v := ?v47r14n4q26) rfl (by kernel_rfl) (by kernel_rfl) (by kernel_rfl) (fun _ _ _ h => h) (Or.inl ⟨by kernel_rfl, ?hy47r14n4q26⟩) (by assumption) ?hr47r14n4q26
                case hy47r14n4q26 => (intro w hSw; (try dsimp only at hSw); (obtain ⟨c1, c2, c3, c4, c5, c6, c7, c8, c9⟩ := HC3.out w hSw; obtain ⟨g1, g2, g3, g4, g5, g6, g7, g8, g9⟩ := HC4.out w hSw; obtain ⟨d0, d1, d2, d3, d4, d5⟩ := box6_cells c9); first | (go_simp; done) | (go_simp; with_reducible rfl))
                refine wpAnyH_ready (rs := [26]) (by kernel_rfl) (by simp) (AllReadyH.cons rfl (fun K hK => ?hc47r14n4q27) AllReadyH.nil)
                go_simp
                (go_at_call 12; refine (HCJ.out _).mono ?_; rintro e w8 ⟨rfl, hb8⟩; (try dsimp only))
                refine hK.out _ _ ?hs47r14n4q27 (fun hHeld47r14n4q27 => ?ht47r14n4q27)
                case hs47r14n4q27 => ((try dsimp only); (first | exact hHeld.below hb8))
                clear hHeld hK
                have hHeld := hHeld47r14n4q27
                clear hHeld47r14n4q27
                refine wpAnyH_take (i := 27) (v := ?v47r14n4q28) rfl (by kernel_rfl) (by kernel_rfl) (by kernel_rfl) (fun _ _ _ h => h) (Or.inl ⟨by kernel_rfl, ?hy47r14n4q28⟩) (by assumption) ?hr47r14n4q28
                case hy47r14n4q28 => (intro w hSw; (try dsimp only at hSw); (obtain ⟨c1, c2, c3, c4, c5, c6, c7, c8, c9⟩ := HC3.out w hSw; obtain ⟨g1, g2, g3, g4, g5, g6, g7, g8, g9⟩ := HC4.out w hSw; obtain ⟨d0, d1, d2, d3, d4, d5⟩ := box6_cells c9); first | (go_simp; done) | (go_simp; with_reducible rfl))
                refine wpAnyH_take (i := 28) (v := ?v47r14n4q29) rfl (by kernel_rfl) (by kernel_rfl) (by kernel_rfl) (fun _ _ _ h => h) (Or.inl ⟨by kernel_rfl, ?hy47r14n4q29⟩) (by assumption) ?hr47r14n4q29
                case hy47r14n4q29 => (intro w hSw; (try dsimp only at hSw); (obtain ⟨c1, c2, c3, c4, c5, c6, c7, c8, c9⟩ := HC3.out w hSw; obtain ⟨g1, g2, g3, g4, g5, g6, g7, g8, g9⟩ := HC4.out w hSw; obtain ⟨d0, d1, d2, d3, d4, d5⟩ := box6_cells c9); first | (go_simp; done) | (go_simp; with_reducible rfl))
                refine wpAnyH_done (by kernel_rfl) ?_ _
                clear hHeld
                have hT8 : Turned (fun _ => False) W2 w8 := ((Turned.refl _ _).drew).below hb8
                apply_assumption
                refine wpIn_cutA 95 (fun tm ds => ds = [] ∧ slot tm 8 = .pointer (some ⟨B + 1 + 1 + 1 + 1, 0, none⟩) ∧ slot tm 93 = .bool b2) (by kernel_rfl) (by exact ⟨by kernel_rfl, by kernel_rfl, by rw [HB2.out]; kernel_rfl⟩) ?_
                rintro tm3 ds3 h95 ⟨rfl, e8, e93⟩
                rw [frame95 tm3 [] h95, e8, e93]
                clear h95 e8 e93 han han2 hwr hb8
                have g98 := HT2.out.trans hT8
                have hq48 := G0C.out.trans (HT9.out.trans g98)
                have hs28 := HT2.out.size
                cases b2 with
                | true =>
                  have hq4c := hq48.cells HQ4.out id
                  have f4 : w8.frozen? ⟨B + 1 + 1 + 1 + 1, 0, none⟩ = false := by simp [World.frozen?, hq4c]
                  have c4 : w8.cell? ⟨B + 1 + 1 + 1 + 1, 0, none⟩ = some (.bool false) := box1_cell hq4c
                  have hbad : Hid (okK way (needL pl need) tt i k = false) := hidep (by
                    rw [hokj.out, List.all_eq_false]
                    exact ⟨j, HJM.out, by rw [HJ.out]; decide⟩)
                  have H1 := hidep (show ∀ v, Turned (fun b => b = B + 4) w9 (w8.setCell ⟨B + 1 + 1 + 1 + 1, 0, none⟩ v) from fun v => (g98.mono (fun _ _ h => h.elim)).trans ((Turned.refl (fun b => b = B + 4) w8).setCell ⟨B + 1 + 1 + 1 + 1, 0, none⟩ v (.inr rfl)))
                  have H2 := hidep (show ∀ v, KeepsFrom w9.heap.size W2 (w8.setCell ⟨B + 1 + 1 + 1 + 1, 0, none⟩ v) from fun v => ((hT8.mono (fun _ _ h => h.elim)).trans ((Turned.refl (fun b => b = B + 4) w8).setCell ⟨B + 1 + 1 + 1 + 1, 0, none⟩ v (.inr rfl))).from (fun b hb h => by have := HSB.out; omega))
                  have H3 := hidep (heap_set hq4c 0 (.bool false))
                  clear hq4c g98 hq48 hT8
                  gi_wp2
                  exact ⟨H2.out _, rfl, hbad.out, H1.out _, H3.out⟩
                | false =>
                  gi_wp2
                  refine ⟨hT8.from (fun _ _ h => h), hT8.kp3 (by omega) (fun _ _ _ h => h), fun y hy => ?_, g98⟩
                  rw [othV_snoc] at hy
                  rcases List.mem_append.1 hy with h | h
                  · exact HALL3.out y h
                  · simp only [List.mem_singleton] at h
                    rw [h, HJ.out]
                    rfl
              case done2 =>
                rintro ys2 W2 hys2 ⟨hall2, hT2⟩
                have hWW2 : Turned (fun _ => False) W W2 := GWC.out.trans (HT9.out.trans hT2)
                have h7W2 : Turned (fun _ => False) w7 W2 := G7C.out.trans (HT9.out.trans hT2)
                have hgood : okK way (needL pl need) tt i k = true := by
                  rw [hokj.out, List.all_eq_true]
                  intro y hy
                  exact hall2 y (by rw [hys2]; exact hy)
                gi_wp2
                refine ⟨hWW2.from (fun _ _ h => h), hWW2.kp3 (by omega) (fun _ _ _ h => h), fun y hy => ?_, h7W2⟩
                rw [othV_snoc] at hy
                rcases List.mem_append.1 hy with h | h
                · exact HALL2.out y h
                · simp only [List.mem_singleton] at h
                  rw [h]
                  exact hgood
              case stop2 =>
                rintro cd pre2 W2 _ ⟨rfl, hbad, hT2, hW2⟩
                have hWW2 : Turned (fun b => b = B + 4) W W2 := ((GWC.out.trans HT9.out).mono (fun _ _ h => h.elim)).trans hT2
                have h7W2 : Turned (fun b => b = B + 4) w7 W2 := ((G7C.out.trans HT9.out).mono (fun _ _ h => h.elim)).trans hT2
                gi_wp2
                exact ⟨hWW2.from (fun b hb h => by have := HSB.out; omega), rfl, ⟨k, HKM.out, hbad⟩, h7W2, hW2⟩
        case done =>
          rintro D ys W hD hys ⟨hall, hTW⟩ hK
          have hsw := hTW.size
          have hT1W : Turned (fun _ => False) wo W := hT7.trans hTW
          have hmk2 := (HMK.out.kept (hT7.keepsM (fun _ h => h.elim))).cons (hTW.keepsM (fun _ h => h.elim)) (by have := hTr.size; omega) hD hK
          have HN2' := hidep (show ∀ s, s < i + 1 → ((othersL s n (-1)).all fun k => okK way (needL pl need) tt s k) = true from fun s hs => by
            by_cases hsi : s < i
            · exact HALL.out s hsi
            · have hsi : s = i := by omega
              subst hsi
              rw [List.all_eq_true]
              intro y hy
              exact hall y (by rw [hys]; exact hy))
          clear hO7 HHB h10
          have hTW0 := hT07.trans hTW
          clear hT07 hTW hT7 hT1W
          go_wp2
          refine ⟨LoopI.mk rfl ⟨rfl, rfl, rfl, rfl, rfl, rfl, rfl, i + 1, by omega, by show Value.int _ _ = _; go_num, hTW0, hmk2, HN2'⟩, ?_⟩
          show N - _ < N - _
          simp [intOf]; omega
        case stop =>
          rintro D cd pre W hD _ ⟨rfl, hbad, hTW, hWB⟩ hK
          have hmk2 := (HMK.out.kept (hT7.keepsM (fun _ h => h.elim))).cons (hTW.keepsM (fun b h hd => by subst h; rw [hT07.cells q4 id] at hd; cases hd)) (by have := hTr.size; omega) hD hK
          have hbz : Hid (boundsZ way (needL pl need) tt = false) := hidep (by
            obtain ⟨k, hk1, hk2⟩ := hbad
            rw [HBZ.out, List.all_eq_false]
            refine ⟨i, by simpa using hlt, ?_⟩
            rw [Bool.not_eq_true, List.all_eq_false]
            exact ⟨k, hk1, by rw [hk2]; decide⟩)
          have hTW0 : Turned (fun b => b = B + 4) W0 W := (hT07.mono (fun _ _ h => h.elim)).trans hTW
          refine wpIn_wide.2 ?_
          have HWB2 := hidep hWB
          clear hO7 HHB h10 hT07 hTW hT7 hWB
          go_wp2
          refine leavesM_marks hmk2 (fun w' hc hb => ?_)
          exact bounds_out rfl rfl HBE.out HWB.out (hTW0.lower hb) (hc _ _ HWB2.out rfl) hbz.out.symm
      · have hiN : i = N := by omega
        subst hiN
        have f4 : wr.frozen? ⟨B + 1 + 1 + 1 + 1, 0, none⟩ = false := by simp [World.frozen?, hTr.cells q4 id]
        have c4 : wr.cell? ⟨B + 1 + 1 + 1 + 1, 0, none⟩ = some (.bool false) := box1_cell (hTr.cells q4 id)
        have HQ4 := hidep (hTr.cells q4 id)
        have hbz : Hid (boundsZ way (needL pl need) tt = true) := hidep (by
          rw [HBZ.out, List.all_eq_true]
          intro s hs
          exact HALL.out s (by simpa using hs))
        have hTS : ∀ v, Turned (fun b => b = B + 4) W0 (wr.setCell ⟨B + 1 + 1 + 1 + 1, 0, none⟩ v) := fun v => (hTr.mono (fun _ _ h => h.elim)).trans ((Turned.refl (fun b => b = B + 4) wr).setCell ⟨B + 1 + 1 + 1 + 1, 0, none⟩ v (.inr rfl))
        have hMS : ∀ v, Marks W0.heap.size ds (wr.setCell ⟨B + 1 + 1 + 1 + 1, 0, none⟩ v) := fun v => HMK.out.kept (((Turned.refl (fun b => b = B + 4) wr).setCell ⟨B + 1 + 1 + 1 + 1, 0, none⟩ v (.inr rfl)).keepsM (fun b h hd => by subst h; rw [HQ4.out] at hd; cases hd))
        have HTS := hidep hTS
        have HMS := hidep hMS
        clear q0 q1 q2 q3 q4 q5 hshl hshl2 hTS hMS
        go_wp2
        refine leavesM_marks (HMS.out _) (fun w' hc hb => ?_)
        exact bounds_out rfl rfl HBE.out HWB.out ((HTS.out _).lower hb) (hc _ _ (heap_set HQ4.out 0 (.bool true)) rfl) hbz.out.symm
  · have hbz : Hid (boundsZ way (needL pl need) tt = false) := hidep (by unfold boundsZ; rw [HNL.out, HNN.out, ← HN2.out, decide_eq_false hlen]; rfl)
    have hne : ((tt.length : Int) == (N : Int)) = false := beq_false_of_ne (by omega)
    have hne2 : ((tt.length : Int) != (N : Int)) = true := by unfold bne; rw [hne]; rfl
    refine wp_region_noPanic (wp_region_held_drew (S := (fun X => Turned (fun _ => False) W0 X)) (by kernel_rfl) ?hS47r2n5 (fun hHeld => ?hR47r2n5))
    case hS47r2n5 => ((try dsimp only); (exact (Turned.refl _ _).drew))
    refine wpAnyH_take (i := 0) (v := ?v47r2n5q1) rfl (by kernel_rfl) (by kernel_rfl) (by kernel_rfl) (fun _ _ _ h => h) (Or.inl ⟨by kernel_rfl, ?hy47r2n5q1⟩) (by assumption) ?hr47r2n5q1
    case hy47r2n5q1 => (intro w hSw; (try dsimp only at hSw); (obtain ⟨c3, c5⟩ := HC0.out w hSw); first | (go_simp; done) | (go_simp; with_reducible rfl))
    refine wpAnyH_take (i := 1) (v := ?v47r2n5q2) rfl (by kernel_rfl) (by kernel_rfl) (by kernel_rfl) (fun _ _ _ h => h) (Or.inl ⟨by kernel_rfl, ?hy47r2n5q2⟩) (by assumption) ?hr47r2n5q2
    case hy47r2n5q2 => (intro w hSw; (try dsimp only at hSw); (obtain ⟨c3, c5⟩ := HC0.out w hSw); first | (go_simp; done) | (go_simp; with_reducible rfl))
    refine wpAnyH_take (i := 2) (v := ?v47r2n5q3) rfl (by kernel_rfl) (by kernel_rfl) (by kernel_rfl) (fun _ _ _ h => h) (Or.inl ⟨by kernel_rfl, ?hy47r2n5q3⟩) (by assumption) ?hr47r2n5q3
    case hy47r2n5q3 => (intro w hSw; (try dsimp only at hSw); (obtain ⟨c3, c5⟩ := HC0.out w hSw); first | (go_simp; done) | (go_simp; with_reducible rfl))
    refine wpAnyH_take (i := 3) (v := ?v47r2n5q4) rfl (by kernel_rfl) (by kernel_rfl) (by kernel_rfl) (fun _ _ _ h => h) (Or.inl ⟨by kernel_rfl, ?hy47r2n5q4⟩) (by assumption) ?hr47r2n5q4
    case hy47r2n5q4 => (intro w hSw; (try dsimp only at hSw); (obtain ⟨c3, c5⟩ := HC0.out w hSw); first | (go_simp; done) | (go_simp; with_reducible rfl))
    refine wpAnyH_take (i := 4) (v := ?v47r2n5q5) rfl (by kernel_rfl) (by kernel_rfl) (by kernel_rfl) (fun _ _ _ h => h) (Or.inl ⟨by kernel_rfl, ?hy47r2n5q5⟩) (by assumption) ?hr47r2n5q5
    case hy47r2n5q5 => (intro w hSw; (try dsimp only at hSw); (obtain ⟨c3, c5⟩ := HC0.out w hSw); first | (go_simp; done) | (go_simp; with_reducible rfl))
    refine wpAnyH_take (i := 5) (v := ?v47r2n5q6) rfl (by kernel_rfl) (by kernel_rfl) (by kernel_rfl) (fun _ _ _ h => h) (Or.inl ⟨by kernel_rfl, ?hy47r2n5q6⟩) (by assumption) ?hr47r2n5q6
    case hy47r2n5q6 => (intro w hSw; (try dsimp only at hSw); (obtain ⟨c3, c5⟩ := HC0.out w hSw); first | (go_simp; done) | (go_simp; with_reducible rfl))
    refine wpAnyH_take (i := 6) (v := undef) rfl (by kernel_rfl) (by kernel_rfl) (by kernel_rfl) (fun _ _ _ h => h) (Or.inr ⟨by kernel_rfl, rfl⟩) (by assumption) ?_
    refine wpAnyH_ready (rs := [7]) (by kernel_rfl) (by simp) (AllReadyH.cons rfl (fun K hK => ?hc47r2n5q8) AllReadyH.nil)
    first | rw [if_neg (ne_true_of_eq_false (by kernel_rfl))] | rw [if_neg (by decide)]
    refine hK.out _ _ ?hs47r2n5q8 (fun hHeld47r2n5q8 => ?ht47r2n5q8)
    case hs47r2n5q8 => ((try dsimp only); (first | (with_reducible exact hHeld)))
    clear hHeld hK
    have hHeld := hHeld47r2n5q8
    clear hHeld47r2n5q8
    refine wpAnyH_ready (rs := [8]) (by kernel_rfl) (by simp) (AllReadyH.cons rfl (fun K hK => ?hc47r2n5q9) AllReadyH.nil)
    first | rw [if_neg (ne_true_of_eq_false (by kernel_rfl))] | rw [if_neg (by decide)]
    refine hK.out _ _ ?hs47r2n5q9 (fun hHeld47r2n5q9 => ?ht47r2n5q9)
    case hs47r2n5q9 => ((try dsimp only); (first | (with_reducible exact hHeld)))
    clear hHeld hK
    have hHeld := hHeld47r2n5q9
    clear hHeld47r2n5q9
    refine wpAnyH_take (i := 9) (v := ?v47r2n5q10) rfl (by kernel_rfl) (by kernel_rfl) (by kernel_rfl) (fun _ _ _ h => h) (Or.inl ⟨by kernel_rfl, ?hy47r2n5q10⟩) (by assumption) ?hr47r2n5q10
    case hy47r2n5q10 => (intro w hSw; (try dsimp only at hSw); (obtain ⟨c3, c5⟩ := HC0.out w hSw); first | (go_simp; done) | (go_simp; with_reducible rfl))
    refine wpAnyH_done (by kernel_rfl) ?_ _
    clear hHeld
    refine NoPanic.normal ?_
    apply_assumption
    refine wp_cutA 95 (fun tm ds => ds = [] ∧ slot tm 8 = .pointer (some ⟨B + 1 + 1 + 1 + 1, 0, none⟩) ∧ slot tm 25 = .bool true) (by kernel_rfl) (by exact ⟨by kernel_rfl, by kernel_rfl, by kernel_rfl⟩) ?_
    rintro tm5 ds5 h95 ⟨rfl, e8, e25⟩
    rw [frame95 tm5 [] h95, e8, e25]
    clear h95 e8 e25
    have f4 : W0.frozen? ⟨B + 1 + 1 + 1 + 1, 0, none⟩ = false := by simp [World.frozen?, q4]
    have c4 : W0.cell? ⟨B + 1 + 1 + 1 + 1, 0, none⟩ = some (.bool false) := box1_cell q4
    go_wp2
    refine leavesM_marks (lo := (W0.setCell ⟨B + 1 + 1 + 1 + 1, 0, none⟩ (.bool false)).drew.heap.size) (Marks.nil _ _) (fun w' hc hb => ?_)
    have hT9 : Turned (fun b => b = B + 4) W0 ((W0.setCell ⟨B + 1 + 1 + 1 + 1, 0, none⟩ (.bool false)).drew) := ((Turned.refl (fun b => b = B + 4) W0).setCell ⟨B + 1 + 1 + 1 + 1, 0, none⟩ _ (.inr rfl)).drew
    exact bounds_out rfl rfl HBE.out HWB.out (hT9.below hb) (hc _ _ (heap_set q4 0 (.bool false)) rfl) hbz.out.symm
end Go.Proofs.Ytfljgcpfmhhgcaa
