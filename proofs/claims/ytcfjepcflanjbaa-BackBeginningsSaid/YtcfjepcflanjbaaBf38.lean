/- The code's Good: its closure. -/
import Derived.Test.YtcfjepcflanjbaaBf37
namespace Go.Proofs.Ytcfjepcflanjbaa
open Go.RowKit Go.Lab Go.Shelf
set_option maxRecDepth 100000
/-- How many bytes two lists have in common. -/
def comm : List Int → List Int → Nat
  | x :: xs, y :: ys => if x = y then comm xs ys + 1 else 0
  | _, _ => 0
theorem comm_le : ∀ a b : List Int, comm a b ≤ a.length ∧ comm a b ≤ b.length
  | [], _ => by simp [comm]
  | _ :: _, [] => by simp [comm]
  | x :: xs, y :: ys => by
    have h := comm_le xs ys
    unfold comm
    split
    · simp; omega
    · simp
theorem comm_more : ∀ (a b : List Int) (k : Nat), k ≤ comm a b → (ha : k < a.length) → (hb : k < b.length) → (a[k] = b[k] ↔ k + 1 ≤ comm a b)
  | [], _, _, _, ha, _ => by simp at ha
  | _ :: _, [], _, _, _, hb => by simp at hb
  | x :: xs, y :: ys, 0, _, _, _ => by
    unfold comm
    by_cases h : x = y
    · simp [h]
    · simp [h]
  | x :: xs, y :: ys, k + 1, hk, ha, hb => by
    unfold comm at hk ⊢
    by_cases h : x = y
    · rw [if_pos h] at hk ⊢
      have := comm_more xs ys k (by omega) (by simpa using ha) (by simpa using hb)
      simp only [List.getElem_cons_succ]
      rw [this]
      omega
    · rw [if_neg h] at hk
      omega
theorem range_map44 (f : Nat → Value) : (List.range 44).map f = [f 0, f 1, f 2, f 3, f 4, f 5, f 6, f 7, f 8, f 9, f 10, f 11, f 12, f 13, f 14, f 15, f 16, f 17, f 18, f 19, f 20, f 21, f 22, f 23, f 24, f 25, f 26, f 27, f 28, f 29, f 30, f 31, f 32, f 33, f 34, f 35, f 36, f 37, f 38, f 39, f 40, f 41, f 42, f 43] := rfl
theorem frame44 (t : Array Value) (ds : List Deferred) (h : t.size = 44) : ({ tmps := t, defers := ds } : Act) = { tmps := #[slot t 0, slot t 1, slot t 2, slot t 3, slot t 4, slot t 5, slot t 6, slot t 7, slot t 8, slot t 9, slot t 10, slot t 11, slot t 12, slot t 13, slot t 14, slot t 15, slot t 16, slot t 17, slot t 18, slot t 19, slot t 20, slot t 21, slot t 22, slot t 23, slot t 24, slot t 25, slot t 26, slot t 27, slot t 28, slot t 29, slot t 30, slot t 31, slot t 32, slot t 33, slot t 34, slot t 35, slot t 36, slot t 37, slot t 38, slot t 39, slot t 40, slot t 41, slot t 42, slot t 43], defers := ds } := by
  have e : t = ((List.range 44).map (slot t)).toArray := by
    apply Array.ext
    · simp [h]
    · intro i h1 h2
      simp [slot, Array.getD, h1]
  rw [range_map44] at e
  exact congrArg (fun x => ({ tmps := x, defers := ds } : Act)) e
def GdM (W0 : World) (v0 v4 v5 v6 v11 : Value) (tb : Bool) : Act → World → Prop := fun a W => a.tmps.size = 44 ∧ a.defers = [] ∧ slot a.tmps 0 = v0 ∧ slot a.tmps 4 = v4 ∧ slot a.tmps 5 = v5 ∧ slot a.tmps 6 = v6 ∧ slot a.tmps 11 = v11 ∧ slot a.tmps 36 = .bool tb ∧ Below W0.heap.size W0 W
set_option maxHeartbeats 4000000 in
theorem good1_any (cv : Value) (C : List Int) (w0 : World) (A Cb Mb : Nat) (hC : BysAt w0 cv C) (hCl : C.length ≤ 8192) (k : Nat) (hk : k ≤ C.length) (a : Nat) (W : World) (hW : Below w0.heap.size w0 W) (hA : W.heap[A]? = some (.cells #[.int .i64 (k : Nat)] 3)) (hCb : W.heap[Cb]? = some (.cells #[cv] 23)) (hMb : W.heap[Mb]? = some (.cells #[.int .i64 (a : Nat)] 3)) (u : Value) (m : MvZ) (hu : BysAt W u m.cells) (hml : m.cells.length ≤ 12) :
    Calls Try.prog 24 #[u, .string m.text, .bool m.cap, .agg #[.int .i64 0, .int .i64 m.dst.st.lang, .bool m.dst.st.num, .bool m.dst.st.word, .int .i64 (m.dst.need : Nat), .bool m.dst.sw], .pointer (some ⟨A, 0, none⟩), .pointer (some ⟨Cb, 0, none⟩), .pointer (some ⟨Mb, 0, none⟩)] W
      fun e W' => e = .returned (.tuple #[]) ∧ W'.heap[Mb]? = some (.cells #[.int .i64 ((max a (k + comm (C.drop k) m.cells) : Nat) : Int)] 3) ∧ Turned (fun b => b = Mb) W W' := by
  obtain ⟨ua, uc, rfl, huc, hum⟩ := hu.1.form
  obtain ⟨ca, cc, rfl, hcc, hcm⟩ := hC.1.form
  unfold maxLen at hum hcm
  obtain ⟨mc, mt, mcap, md⟩ := m
  simp only at hu huc hml ⊢
  obtain ⟨n, hn⟩ : ∃ n, n = C.length := ⟨_, rfl⟩
  obtain ⟨c, hc⟩ : ∃ c, c = mc.length := ⟨_, rfl⟩
  have HN := hidep (And.intro hn hc)
  obtain ⟨r, hr⟩ : ∃ r, r = comm (C.drop k) mc := ⟨_, rfl⟩
  have hrle := comm_le (C.drop k) mc
  rw [← hr, List.length_drop, ← hn, ← hc] at hrle
  have HCM := hidep (fun j (hj : j ≤ r) ha hb => comm_more (C.drop k) mc j (by rw [← hr]; exact hj) ha hb)
  have HR := hidep hr
  have HU := hidep hu
  have HC := hidep hC
  rw [← hn] at hCl hk hcc
  rw [← hc] at huc hml ⊢
  rw [← hr] at HCM ⊢
  have HW := hidep (And.intro hW (And.intro hA (And.intro hCb hMb)))
  clear hu hC hn hc hr hW hA hCb hMb
  go_enter Try.func24, Try.ntmps24
  go_upto_region 1 with (fail)
  refine wp_abs (fun X => Below W.heap.size W X) ((Below.refl _ _).alloc (Nat.le_refl _) _) ?_
  intro X hX
  go_upto_region 2 with (fail)
  refine wp_loop (LoopI 44 (fun tm ds wr => (slot tm 0) = .slice ua c uc ∧ (slot tm 4) = .pointer (some ⟨A, 0, none⟩) ∧ (slot tm 5) = .pointer (some ⟨Cb, 0, none⟩) ∧ (slot tm 6) = .pointer (some ⟨Mb, 0, none⟩) ∧ ds = [] ∧ ∃ j : Nat, j ≤ r ∧ (slot tm 11) = .int .i64 (j : Nat) ∧ Below W.heap.size W wr)) (fun a' wr => r - natI (a'.tmps.getD 11 undef)) ?glStart ?glRound
  case' glStart => refine LoopI.mk rfl ?_
  case' glRound => (rintro ⟨t, ds⟩ wr ⟨hts, hrel⟩; dsimp only at hts hrel; rw [frame44 t ds hts])
  case glStart => exact ⟨rfl, rfl, rfl, rfl, rfl, 0, Nat.zero_le _, rfl, hX⟩
  clear hX
  obtain ⟨e0, e4, e5, e6, hds, j, hj, e11, hb⟩ := hrel
  subst hds
  rw [e0, e4, e5, e6, e11]
  clear e0 e4 e5 e6 e11 hts
  have hbA := box1_cell (below_push hb HW.out.2.1)
  have hbC := box1_cell (below_push hb HW.out.2.2.1)
  have hbM := below_push hb HW.out.2.2.2
  have HB := hidep (And.intro hb hbM)
  have hw1 : IntKind.i64.wrap ((k : Int) + (j : Int)) = (k : Int) + (j : Int) := IntWalk.i64_in _ (by omega)
  have hw2 : IntKind.i64.wrap ((j : Int) + 1) = (j : Int) + 1 := IntWalk.i64_in _ (by omega)
  rw [← HN.out.1] at hbC
  clear hb hbM
  have HSEE := hidep (fun (Z : World) (hZ : Below wr.heap.size wr Z) => by
    have h0 := HB.out.1.trans (hZ.mono HB.out.1.size)
    have h2 := box1_cell (below_push h0 HW.out.2.2.1)
    rw [← HN.out.1] at h2
    exact And.intro (box1_cell (below_push h0 HW.out.2.1)) h2)
  clear hbA hbC
  go_upto_region 2 with (fail)
  refine wp_join (GdM W (.slice ua c uc) (.pointer (some ⟨A, 0, none⟩)) (.pointer (some ⟨Cb, 0, none⟩)) (.pointer (some ⟨Mb, 0, none⟩)) (.int .i64 (j : Nat)) (decide (j < r))) ?r2 ?_
  case r2 =>
    intro K' hMK
    by_cases hjc : j < c
    · have hjc1 : (j : Int) < (c : Int) := by omega
      by_cases hjn : k + j < n
      · have hjn1 : (k : Int) + (j : Int) < (n : Int) := by omega
        have hwn : ((k : Int) + (j : Int)).toNat = k + j := by omega
        have hj0 : (0 : Int) ≤ (k : Int) + (j : Int) := by omega
        have hj00 : (0 : Int) ≤ (j : Int) := by omega
        obtain ⟨cb, co, x, hx, rfl, hcb, hcx, _, _⟩ := HC.out.get (show k + j < C.length from by rw [← HN.out.1]; exact hjn)
        obtain ⟨ub, uo, y, hy, rfl, hub, hcy, _, _⟩ := BysAt.get (l := mc) (by have h := HU.out; exact h) (show j < mc.length from by rw [← HN.out.2]; exact hjc)
        have heq : (x = y) ↔ j < r := by
          have h := HCM.out j hj (by rw [List.length_drop, ← HN.out.1]; omega) (by rw [← HN.out.2]; exact hjc)
          rw [List.getElem_drop, hx, hy] at h
          omega
        have HXY := hidep (fun (Z : World) (hZ : Below wr.heap.size wr Z) => by
          have h0 := HB.out.1.trans (hZ.mono HB.out.1.size)
          have h1 := (h0.cell (p := ⟨ub, uo + j, none⟩) hub).trans hcy
          have h2 := HW.out.1.trans (h0.mono HW.out.1.size)
          exact And.intro h1 ((h2.cell (p := ⟨cb, co + (k + j), none⟩) hcb).trans hcx))
        clear hx hy hcb hcx hub hcy
        obtain ⟨eb, heb⟩ : ∃ e, e = (x == y) := ⟨_, rfl⟩
        have he : (x == y) = eb := heb.symm
        have hd : decide (j < r) = eb := by
          rw [heb]
          by_cases hxy : x = y
          · rw [decide_eq_true (heq.1 hxy)]; simp [hxy]
          · rw [decide_eq_false (fun h => hxy (heq.2 h))]; simp [hxy]
        have HD := hidep hd
        rw [hd] at hMK
        clear heq heb hd
        refine wp_region_noPanic (wp_region_held_drew (S := (fun Z => Below wr.heap.size wr Z)) (by kernel_rfl) ?hS24r2n0 (fun hHeld => ?hR24r2n0))
        case hS24r2n0 => ((try dsimp only); (exact (Below.refl _ _).drew))
        refine wpAnyH_take (i := 0) (v := ?v24r2n0q1) rfl (by kernel_rfl) (by kernel_rfl) (by kernel_rfl) (fun _ _ _ h => h) (Or.inl ⟨by kernel_rfl, ?hy24r2n0q1⟩) (by assumption) ?hr24r2n0q1
        case hy24r2n0q1 => (intro w hSw; (try dsimp only at hSw); (obtain ⟨hbA, hbC⟩ := HSEE.out _ hSw; obtain ⟨hy, hx⟩ := HXY.out _ hSw); first | (go_simp; done) | (go_simp; with_reducible rfl))
        refine wpAnyH_take (i := 1) (v := ?v24r2n0q2) rfl (by kernel_rfl) (by kernel_rfl) (by kernel_rfl) (fun _ _ _ h => h) (Or.inl ⟨by kernel_rfl, ?hy24r2n0q2⟩) (by assumption) ?hr24r2n0q2
        case hy24r2n0q2 => (intro w hSw; (try dsimp only at hSw); (obtain ⟨hbA, hbC⟩ := HSEE.out _ hSw; obtain ⟨hy, hx⟩ := HXY.out _ hSw); first | (go_simp; done) | (go_simp; with_reducible rfl))
        refine wpAnyH_take (i := 2) (v := ?v24r2n0q3) rfl (by kernel_rfl) (by kernel_rfl) (by kernel_rfl) (fun _ _ _ h => h) (Or.inl ⟨by kernel_rfl, ?hy24r2n0q3⟩) (by assumption) ?hr24r2n0q3
        case hy24r2n0q3 => (intro w hSw; (try dsimp only at hSw); (obtain ⟨hbA, hbC⟩ := HSEE.out _ hSw; obtain ⟨hy, hx⟩ := HXY.out _ hSw); first | (go_simp; done) | (go_simp; with_reducible rfl))
        refine wpAnyH_take (i := 3) (v := ?v24r2n0q4) rfl (by kernel_rfl) (by kernel_rfl) (by kernel_rfl) (fun _ _ _ h => h) (Or.inl ⟨by kernel_rfl, ?hy24r2n0q4⟩) (by assumption) ?hr24r2n0q4
        case hy24r2n0q4 => (intro w hSw; (try dsimp only at hSw); (obtain ⟨hbA, hbC⟩ := HSEE.out _ hSw; obtain ⟨hy, hx⟩ := HXY.out _ hSw); first | (go_simp; done) | (go_simp; with_reducible rfl))
        refine wpAnyH_take (i := 4) (v := ?v24r2n0q5) rfl (by kernel_rfl) (by kernel_rfl) (by kernel_rfl) (fun _ _ _ h => h) (Or.inl ⟨by kernel_rfl, ?hy24r2n0q5⟩) (by assumption) ?hr24r2n0q5
        case hy24r2n0q5 => (intro w hSw; (try dsimp only at hSw); (obtain ⟨hbA, hbC⟩ := HSEE.out _ hSw; obtain ⟨hy, hx⟩ := HXY.out _ hSw); first | (go_simp; done) | (go_simp; with_reducible rfl))
        refine wpAnyH_take (i := 5) (v := ?v24r2n0q6) rfl (by kernel_rfl) (by kernel_rfl) (by kernel_rfl) (fun _ _ _ h => h) (Or.inl ⟨by kernel_rfl, ?hy24r2n0q6⟩) (by assumption) ?hr24r2n0q6
        case hy24r2n0q6 => (intro w hSw; (try dsimp only at hSw); (obtain ⟨hbA, hbC⟩ := HSEE.out _ hSw; obtain ⟨hy, hx⟩ := HXY.out _ hSw); first | (go_simp; done) | (go_simp; with_reducible rfl))
        refine wpAnyH_take (i := 6) (v := ?v24r2n0q7) rfl (by kernel_rfl) (by kernel_rfl) (by kernel_rfl) (fun _ _ _ h => h) (Or.inl ⟨by kernel_rfl, ?hy24r2n0q7⟩) (by assumption) ?hr24r2n0q7
        case hy24r2n0q7 => (intro w hSw; (try dsimp only at hSw); (obtain ⟨hbA, hbC⟩ := HSEE.out _ hSw; obtain ⟨hy, hx⟩ := HXY.out _ hSw); first | (go_simp; done) | (go_simp; with_reducible rfl))
        refine wpAnyH_take (i := 7) (v := ?v24r2n0q8) rfl (by kernel_rfl) (by kernel_rfl) (by kernel_rfl) (fun _ _ _ h => h) (Or.inl ⟨by kernel_rfl, ?hy24r2n0q8⟩) (by assumption) ?hr24r2n0q8
        case hy24r2n0q8 => (intro w hSw; (try dsimp only at hSw); (obtain ⟨hbA, hbC⟩ := HSEE.out _ hSw; obtain ⟨hy, hx⟩ := HXY.out _ hSw); first | (go_simp; done) | (go_simp; with_reducible rfl))
        refine wpAnyH_take (i := 8) (v := ?v24r2n0q9) rfl (by kernel_rfl) (by kernel_rfl) (by kernel_rfl) (fun _ _ _ h => h) (Or.inl ⟨by kernel_rfl, ?hy24r2n0q9⟩) (by assumption) ?hr24r2n0q9
        case hy24r2n0q9 => (intro w hSw; (try dsimp only at hSw); (obtain ⟨hbA, hbC⟩ := HSEE.out _ hSw; obtain ⟨hy, hx⟩ := HXY.out _ hSw); first | (go_simp; done) | (go_simp; with_reducible rfl))
        refine wpAnyH_take (i := 9) (v := ?v24r2n0q10) rfl (by kernel_rfl) (by kernel_rfl) (by kernel_rfl) (fun _ _ _ h => h) (Or.inl ⟨by kernel_rfl, ?hy24r2n0q10⟩) (by assumption) ?hr24r2n0q10
        case hy24r2n0q10 => (intro w hSw; (try dsimp only at hSw); (obtain ⟨hbA, hbC⟩ := HSEE.out _ hSw; obtain ⟨hy, hx⟩ := HXY.out _ hSw); first | (go_simp; done) | (go_simp; with_reducible rfl))
        refine wpAnyH_take (i := 10) (v := ?v24r2n0q11) rfl (by kernel_rfl) (by kernel_rfl) (by kernel_rfl) (fun _ _ _ h => h) (Or.inl ⟨by kernel_rfl, ?hy24r2n0q11⟩) (by assumption) ?hr24r2n0q11
        case hy24r2n0q11 => (intro w hSw; (try dsimp only at hSw); (obtain ⟨hbA, hbC⟩ := HSEE.out _ hSw; obtain ⟨hy, hx⟩ := HXY.out _ hSw); first | (go_simp; done) | (go_simp; with_reducible rfl))
        refine wpAnyH_take (i := 11) (v := ?v24r2n0q12) rfl (by kernel_rfl) (by kernel_rfl) (by kernel_rfl) (fun _ _ _ h => h) (Or.inl ⟨by kernel_rfl, ?hy24r2n0q12⟩) (by assumption) ?hr24r2n0q12
        case hy24r2n0q12 => (intro w hSw; (try dsimp only at hSw); (obtain ⟨hbA, hbC⟩ := HSEE.out _ hSw; obtain ⟨hy, hx⟩ := HXY.out _ hSw); first | (go_simp; done) | (go_simp; with_reducible rfl))
        refine wpAnyH_take (i := 12) (v := ?v24r2n0q13) rfl (by kernel_rfl) (by kernel_rfl) (by kernel_rfl) (fun _ _ _ h => h) (Or.inl ⟨by kernel_rfl, ?hy24r2n0q13⟩) (by assumption) ?hr24r2n0q13
        case hy24r2n0q13 => (intro w hSw; (try dsimp only at hSw); (obtain ⟨hbA, hbC⟩ := HSEE.out _ hSw; obtain ⟨hy, hx⟩ := HXY.out _ hSw); first | (go_simp; done) | (go_simp; with_reducible rfl))
        refine wpAnyH_take (i := 13) (v := ?v24r2n0q14) rfl (by kernel_rfl) (by kernel_rfl) (by kernel_rfl) (fun _ _ _ h => h) (Or.inl ⟨by kernel_rfl, ?hy24r2n0q14⟩) (by assumption) ?hr24r2n0q14
        case hy24r2n0q14 => (intro w hSw; (try dsimp only at hSw); (obtain ⟨hbA, hbC⟩ := HSEE.out _ hSw; obtain ⟨hy, hx⟩ := HXY.out _ hSw); first | (go_simp; done) | (go_simp; with_reducible rfl))
        refine wpAnyH_take (i := 14) (v := ?v24r2n0q15) rfl (by kernel_rfl) (by kernel_rfl) (by kernel_rfl) (fun _ _ _ h => h) (Or.inl ⟨by kernel_rfl, ?hy24r2n0q15⟩) (by assumption) ?hr24r2n0q15
        case hy24r2n0q15 => (intro w hSw; (try dsimp only at hSw); (obtain ⟨hbA, hbC⟩ := HSEE.out _ hSw; obtain ⟨hy, hx⟩ := HXY.out _ hSw); first | (go_simp; done) | (go_simp; with_reducible rfl))
        refine wpAnyH_take (i := 15) (v := ?v24r2n0q16) rfl (by kernel_rfl) (by kernel_rfl) (by kernel_rfl) (fun _ _ _ h => h) (Or.inl ⟨by kernel_rfl, ?hy24r2n0q16⟩) (by assumption) ?hr24r2n0q16
        case hy24r2n0q16 => (intro w hSw; (try dsimp only at hSw); (obtain ⟨hbA, hbC⟩ := HSEE.out _ hSw; obtain ⟨hy, hx⟩ := HXY.out _ hSw); first | (go_simp; done) | (go_simp; with_reducible rfl))
        refine wpAnyH_take (i := 16) (v := ?v24r2n0q17) rfl (by kernel_rfl) (by kernel_rfl) (by kernel_rfl) (fun _ _ _ h => h) (Or.inl ⟨by kernel_rfl, ?hy24r2n0q17⟩) (by assumption) ?hr24r2n0q17
        case hy24r2n0q17 => (intro w hSw; (try dsimp only at hSw); (obtain ⟨hbA, hbC⟩ := HSEE.out _ hSw; obtain ⟨hy, hx⟩ := HXY.out _ hSw); first | (go_simp; done) | (go_simp; with_reducible rfl))
        refine wpAnyH_take (i := 17) (v := ?v24r2n0q18) rfl (by kernel_rfl) (by kernel_rfl) (by kernel_rfl) (fun _ _ _ h => h) (Or.inl ⟨by kernel_rfl, ?hy24r2n0q18⟩) (by assumption) ?hr24r2n0q18
        case hy24r2n0q18 => (intro w hSw; (try dsimp only at hSw); (obtain ⟨hbA, hbC⟩ := HSEE.out _ hSw; obtain ⟨hy, hx⟩ := HXY.out _ hSw); first | (go_simp; done) | (go_simp; with_reducible rfl))
        refine wpAnyH_take (i := 18) (v := ?v24r2n0q19) rfl (by kernel_rfl) (by kernel_rfl) (by kernel_rfl) (fun _ _ _ h => h) (Or.inl ⟨by kernel_rfl, ?hy24r2n0q19⟩) (by assumption) ?hr24r2n0q19
        case hy24r2n0q19 => (intro w hSw; (try dsimp only at hSw); (obtain ⟨hbA, hbC⟩ := HSEE.out _ hSw; obtain ⟨hy, hx⟩ := HXY.out _ hSw); first | (go_simp; done) | (go_simp; with_reducible rfl))
        refine wpAnyH_take (i := 19) (v := ?v24r2n0q20) rfl (by kernel_rfl) (by kernel_rfl) (by kernel_rfl) (fun _ _ _ h => h) (Or.inl ⟨by kernel_rfl, ?hy24r2n0q20⟩) (by assumption) ?hr24r2n0q20
        case hy24r2n0q20 => (intro w hSw; (try dsimp only at hSw); (obtain ⟨hbA, hbC⟩ := HSEE.out _ hSw; obtain ⟨hy, hx⟩ := HXY.out _ hSw); first | (go_simp; done) | (go_simp; with_reducible rfl))
        refine wpAnyH_take (i := 20) (v := ?v24r2n0q21) rfl (by kernel_rfl) (by kernel_rfl) (by kernel_rfl) (fun _ _ _ h => h) (Or.inl ⟨by kernel_rfl, ?hy24r2n0q21⟩) (by assumption) ?hr24r2n0q21
        case hy24r2n0q21 => (intro w hSw; (try dsimp only at hSw); (obtain ⟨hbA, hbC⟩ := HSEE.out _ hSw; obtain ⟨hy, hx⟩ := HXY.out _ hSw); first | (go_simp; done) | (go_simp; with_reducible rfl))
        refine wpAnyH_take (i := 21) (v := ?v24r2n0q22) rfl (by kernel_rfl) (by kernel_rfl) (by kernel_rfl) (fun _ _ _ h => h) (Or.inl ⟨by kernel_rfl, ?hy24r2n0q22⟩) (by assumption) ?hr24r2n0q22
        case hy24r2n0q22 => (intro w hSw; (try dsimp only at hSw); (obtain ⟨hbA, hbC⟩ := HSEE.out _ hSw; obtain ⟨hy, hx⟩ := HXY.out _ hSw); first | (go_simp; done) | (go_simp; with_reducible rfl))
        refine wpAnyH_take (i := 22) (v := ?v24r2n0q23) rfl (by kernel_rfl) (by kernel_rfl) (by kernel_rfl) (fun _ _ _ h => h) (Or.inl ⟨by kernel_rfl, ?hy24r2n0q23⟩) (by assumption) ?hr24r2n0q23
        case hy24r2n0q23 => (intro w hSw; (try dsimp only at hSw); (obtain ⟨hbA, hbC⟩ := HSEE.out _ hSw; obtain ⟨hy, hx⟩ := HXY.out _ hSw); first | (go_simp; done) | (go_simp; with_reducible rfl))
        refine wpAnyH_take (i := 23) (v := ?v24r2n0q24) rfl (by kernel_rfl) (by kernel_rfl) (by kernel_rfl) (fun _ _ _ h => h) (Or.inl ⟨by kernel_rfl, ?hy24r2n0q24⟩) (by assumption) ?hr24r2n0q24
        case hy24r2n0q24 => (intro w hSw; (try dsimp only at hSw); (obtain ⟨hbA, hbC⟩ := HSEE.out _ hSw; obtain ⟨hy, hx⟩ := HXY.out _ hSw); first | (go_simp; done) | (go_simp; with_reducible rfl))
        refine wpAnyH_take (i := 24) (v := ?v24r2n0q25) rfl (by kernel_rfl) (by kernel_rfl) (by kernel_rfl) (fun _ _ _ h => h) (Or.inl ⟨by kernel_rfl, ?hy24r2n0q25⟩) (by assumption) ?hr24r2n0q25
        case hy24r2n0q25 => (intro w hSw; (try dsimp only at hSw); (obtain ⟨hbA, hbC⟩ := HSEE.out _ hSw; obtain ⟨hy, hx⟩ := HXY.out _ hSw); first | (go_simp; done) | (go_simp; with_reducible rfl))
        refine wpAnyH_done (by kernel_rfl) ?_ _
        clear hHeld
        refine NoPanic.normal ?_
        dsimp only [Exit.then]
        exact hMK _ _ ⟨by kernel_rfl, by kernel_rfl, by kernel_rfl, by kernel_rfl, by kernel_rfl, by kernel_rfl, by kernel_rfl, by kernel_rfl, HB.out.1.trans ((Below.refl _ _).drew.mono HB.out.1.size)⟩
      · have hjn1 : ¬ (k : Int) + (j : Int) < (n : Int) := by omega
        have hd : decide (j < r) = false := decide_eq_false (by omega)
        rw [hd] at hMK
        clear hd
        refine wp_region_noPanic (wp_region_held_drew (S := (fun Z => Below wr.heap.size wr Z)) (by kernel_rfl) ?hS24r2n1 (fun hHeld => ?hR24r2n1))
        case hS24r2n1 => ((try dsimp only); (exact (Below.refl _ _).drew))
        refine wpAnyH_take (i := 0) (v := ?v24r2n1q1) rfl (by kernel_rfl) (by kernel_rfl) (by kernel_rfl) (fun _ _ _ h => h) (Or.inl ⟨by kernel_rfl, ?hy24r2n1q1⟩) (by assumption) ?hr24r2n1q1
        case hy24r2n1q1 => (intro w hSw; (try dsimp only at hSw); (obtain ⟨hbA, hbC⟩ := HSEE.out _ hSw); first | (go_simp; done) | (go_simp; with_reducible rfl))
        refine wpAnyH_take (i := 1) (v := ?v24r2n1q2) rfl (by kernel_rfl) (by kernel_rfl) (by kernel_rfl) (fun _ _ _ h => h) (Or.inl ⟨by kernel_rfl, ?hy24r2n1q2⟩) (by assumption) ?hr24r2n1q2
        case hy24r2n1q2 => (intro w hSw; (try dsimp only at hSw); (obtain ⟨hbA, hbC⟩ := HSEE.out _ hSw); first | (go_simp; done) | (go_simp; with_reducible rfl))
        refine wpAnyH_take (i := 2) (v := ?v24r2n1q3) rfl (by kernel_rfl) (by kernel_rfl) (by kernel_rfl) (fun _ _ _ h => h) (Or.inl ⟨by kernel_rfl, ?hy24r2n1q3⟩) (by assumption) ?hr24r2n1q3
        case hy24r2n1q3 => (intro w hSw; (try dsimp only at hSw); (obtain ⟨hbA, hbC⟩ := HSEE.out _ hSw); first | (go_simp; done) | (go_simp; with_reducible rfl))
        refine wpAnyH_take (i := 3) (v := ?v24r2n1q4) rfl (by kernel_rfl) (by kernel_rfl) (by kernel_rfl) (fun _ _ _ h => h) (Or.inl ⟨by kernel_rfl, ?hy24r2n1q4⟩) (by assumption) ?hr24r2n1q4
        case hy24r2n1q4 => (intro w hSw; (try dsimp only at hSw); (obtain ⟨hbA, hbC⟩ := HSEE.out _ hSw); first | (go_simp; done) | (go_simp; with_reducible rfl))
        refine wpAnyH_take (i := 4) (v := ?v24r2n1q5) rfl (by kernel_rfl) (by kernel_rfl) (by kernel_rfl) (fun _ _ _ h => h) (Or.inl ⟨by kernel_rfl, ?hy24r2n1q5⟩) (by assumption) ?hr24r2n1q5
        case hy24r2n1q5 => (intro w hSw; (try dsimp only at hSw); (obtain ⟨hbA, hbC⟩ := HSEE.out _ hSw); first | (go_simp; done) | (go_simp; with_reducible rfl))
        refine wpAnyH_take (i := 5) (v := ?v24r2n1q6) rfl (by kernel_rfl) (by kernel_rfl) (by kernel_rfl) (fun _ _ _ h => h) (Or.inl ⟨by kernel_rfl, ?hy24r2n1q6⟩) (by assumption) ?hr24r2n1q6
        case hy24r2n1q6 => (intro w hSw; (try dsimp only at hSw); (obtain ⟨hbA, hbC⟩ := HSEE.out _ hSw); first | (go_simp; done) | (go_simp; with_reducible rfl))
        refine wpAnyH_take (i := 6) (v := ?v24r2n1q7) rfl (by kernel_rfl) (by kernel_rfl) (by kernel_rfl) (fun _ _ _ h => h) (Or.inl ⟨by kernel_rfl, ?hy24r2n1q7⟩) (by assumption) ?hr24r2n1q7
        case hy24r2n1q7 => (intro w hSw; (try dsimp only at hSw); (obtain ⟨hbA, hbC⟩ := HSEE.out _ hSw); first | (go_simp; done) | (go_simp; with_reducible rfl))
        refine wpAnyH_take (i := 7) (v := ?v24r2n1q8) rfl (by kernel_rfl) (by kernel_rfl) (by kernel_rfl) (fun _ _ _ h => h) (Or.inl ⟨by kernel_rfl, ?hy24r2n1q8⟩) (by assumption) ?hr24r2n1q8
        case hy24r2n1q8 => (intro w hSw; (try dsimp only at hSw); (obtain ⟨hbA, hbC⟩ := HSEE.out _ hSw); first | (go_simp; done) | (go_simp; with_reducible rfl))
        refine wpAnyH_take (i := 8) (v := ?v24r2n1q9) rfl (by kernel_rfl) (by kernel_rfl) (by kernel_rfl) (fun _ _ _ h => h) (Or.inl ⟨by kernel_rfl, ?hy24r2n1q9⟩) (by assumption) ?hr24r2n1q9
        case hy24r2n1q9 => (intro w hSw; (try dsimp only at hSw); (obtain ⟨hbA, hbC⟩ := HSEE.out _ hSw); first | (go_simp; done) | (go_simp; with_reducible rfl))
        refine wpAnyH_take (i := 9) (v := ?v24r2n1q10) rfl (by kernel_rfl) (by kernel_rfl) (by kernel_rfl) (fun _ _ _ h => h) (Or.inl ⟨by kernel_rfl, ?hy24r2n1q10⟩) (by assumption) ?hr24r2n1q10
        case hy24r2n1q10 => (intro w hSw; (try dsimp only at hSw); (obtain ⟨hbA, hbC⟩ := HSEE.out _ hSw); first | (go_simp; done) | (go_simp; with_reducible rfl))
        refine wpAnyH_take (i := 10) (v := ?v24r2n1q11) rfl (by kernel_rfl) (by kernel_rfl) (by kernel_rfl) (fun _ _ _ h => h) (Or.inl ⟨by kernel_rfl, ?hy24r2n1q11⟩) (by assumption) ?hr24r2n1q11
        case hy24r2n1q11 => (intro w hSw; (try dsimp only at hSw); (obtain ⟨hbA, hbC⟩ := HSEE.out _ hSw); first | (go_simp; done) | (go_simp; with_reducible rfl))
        refine wpAnyH_take (i := 11) (v := ?v24r2n1q12) rfl (by kernel_rfl) (by kernel_rfl) (by kernel_rfl) (fun _ _ _ h => h) (Or.inl ⟨by kernel_rfl, ?hy24r2n1q12⟩) (by assumption) ?hr24r2n1q12
        case hy24r2n1q12 => (intro w hSw; (try dsimp only at hSw); (obtain ⟨hbA, hbC⟩ := HSEE.out _ hSw); first | (go_simp; done) | (go_simp; with_reducible rfl))
        refine wpAnyH_take (i := 12) (v := ?v24r2n1q13) rfl (by kernel_rfl) (by kernel_rfl) (by kernel_rfl) (fun _ _ _ h => h) (Or.inl ⟨by kernel_rfl, ?hy24r2n1q13⟩) (by assumption) ?hr24r2n1q13
        case hy24r2n1q13 => (intro w hSw; (try dsimp only at hSw); (obtain ⟨hbA, hbC⟩ := HSEE.out _ hSw); first | (go_simp; done) | (go_simp; with_reducible rfl))
        refine wpAnyH_take (i := 13) (v := undef) rfl (by kernel_rfl) (by kernel_rfl) (by kernel_rfl) (fun _ _ _ h => h) (Or.inr ⟨by kernel_rfl, rfl⟩) (by assumption) ?_
        refine wpAnyH_take (i := 14) (v := undef) rfl (by kernel_rfl) (by kernel_rfl) (by kernel_rfl) (fun _ _ _ h => h) (Or.inr ⟨by kernel_rfl, rfl⟩) (by assumption) ?_
        refine wpAnyH_take (i := 15) (v := undef) rfl (by kernel_rfl) (by kernel_rfl) (by kernel_rfl) (fun _ _ _ h => h) (Or.inr ⟨by kernel_rfl, rfl⟩) (by assumption) ?_
        refine wpAnyH_take (i := 16) (v := undef) rfl (by kernel_rfl) (by kernel_rfl) (by kernel_rfl) (fun _ _ _ h => h) (Or.inr ⟨by kernel_rfl, rfl⟩) (by assumption) ?_
        refine wpAnyH_take (i := 17) (v := undef) rfl (by kernel_rfl) (by kernel_rfl) (by kernel_rfl) (fun _ _ _ h => h) (Or.inr ⟨by kernel_rfl, rfl⟩) (by assumption) ?_
        refine wpAnyH_take (i := 18) (v := undef) rfl (by kernel_rfl) (by kernel_rfl) (by kernel_rfl) (fun _ _ _ h => h) (Or.inr ⟨by kernel_rfl, rfl⟩) (by assumption) ?_
        refine wpAnyH_take (i := 19) (v := undef) rfl (by kernel_rfl) (by kernel_rfl) (by kernel_rfl) (fun _ _ _ h => h) (Or.inr ⟨by kernel_rfl, rfl⟩) (by assumption) ?_
        refine wpAnyH_take (i := 20) (v := undef) rfl (by kernel_rfl) (by kernel_rfl) (by kernel_rfl) (fun _ _ _ h => h) (Or.inr ⟨by kernel_rfl, rfl⟩) (by assumption) ?_
        refine wpAnyH_take (i := 21) (v := undef) rfl (by kernel_rfl) (by kernel_rfl) (by kernel_rfl) (fun _ _ _ h => h) (Or.inr ⟨by kernel_rfl, rfl⟩) (by assumption) ?_
        refine wpAnyH_take (i := 22) (v := undef) rfl (by kernel_rfl) (by kernel_rfl) (by kernel_rfl) (fun _ _ _ h => h) (Or.inr ⟨by kernel_rfl, rfl⟩) (by assumption) ?_
        refine wpAnyH_take (i := 23) (v := undef) rfl (by kernel_rfl) (by kernel_rfl) (by kernel_rfl) (fun _ _ _ h => h) (Or.inr ⟨by kernel_rfl, rfl⟩) (by assumption) ?_
        refine wpAnyH_take (i := 24) (v := ?v24r2n1q25) rfl (by kernel_rfl) (by kernel_rfl) (by kernel_rfl) (fun _ _ _ h => h) (Or.inl ⟨by kernel_rfl, ?hy24r2n1q25⟩) (by assumption) ?hr24r2n1q25
        case hy24r2n1q25 => (intro w hSw; (try dsimp only at hSw); (obtain ⟨hbA, hbC⟩ := HSEE.out _ hSw); first | (go_simp; done) | (go_simp; with_reducible rfl))
        refine wpAnyH_done (by kernel_rfl) ?_ _
        clear hHeld
        refine NoPanic.normal ?_
        dsimp only [Exit.then]
        exact hMK _ _ ⟨by kernel_rfl, by kernel_rfl, by kernel_rfl, by kernel_rfl, by kernel_rfl, by kernel_rfl, by kernel_rfl, by kernel_rfl, HB.out.1.trans ((Below.refl _ _).drew.mono HB.out.1.size)⟩
    · have hjc1 : ¬ (j : Int) < (c : Int) := by omega
      have hd : decide (j < r) = false := decide_eq_false (by omega)
      rw [hd] at hMK
      clear hd
      refine wp_region_noPanic (wp_region_held_drew (S := (fun Z => Below wr.heap.size wr Z)) (by kernel_rfl) ?hS24r2n2 (fun hHeld => ?hR24r2n2))
      case hS24r2n2 => ((try dsimp only); (exact (Below.refl _ _).drew))
      refine wpAnyH_take (i := 0) (v := ?v24r2n2q1) rfl (by kernel_rfl) (by kernel_rfl) (by kernel_rfl) (fun _ _ _ h => h) (Or.inl ⟨by kernel_rfl, ?hy24r2n2q1⟩) (by assumption) ?hr24r2n2q1
      case hy24r2n2q1 => (intro w hSw; (try dsimp only at hSw); (obtain ⟨hbA, hbC⟩ := HSEE.out _ hSw); first | (go_simp; done) | (go_simp; with_reducible rfl))
      refine wpAnyH_take (i := 1) (v := ?v24r2n2q2) rfl (by kernel_rfl) (by kernel_rfl) (by kernel_rfl) (fun _ _ _ h => h) (Or.inl ⟨by kernel_rfl, ?hy24r2n2q2⟩) (by assumption) ?hr24r2n2q2
      case hy24r2n2q2 => (intro w hSw; (try dsimp only at hSw); (obtain ⟨hbA, hbC⟩ := HSEE.out _ hSw); first | (go_simp; done) | (go_simp; with_reducible rfl))
      refine wpAnyH_take (i := 2) (v := ?v24r2n2q3) rfl (by kernel_rfl) (by kernel_rfl) (by kernel_rfl) (fun _ _ _ h => h) (Or.inl ⟨by kernel_rfl, ?hy24r2n2q3⟩) (by assumption) ?hr24r2n2q3
      case hy24r2n2q3 => (intro w hSw; (try dsimp only at hSw); (obtain ⟨hbA, hbC⟩ := HSEE.out _ hSw); first | (go_simp; done) | (go_simp; with_reducible rfl))
      refine wpAnyH_take (i := 3) (v := ?v24r2n2q4) rfl (by kernel_rfl) (by kernel_rfl) (by kernel_rfl) (fun _ _ _ h => h) (Or.inl ⟨by kernel_rfl, ?hy24r2n2q4⟩) (by assumption) ?hr24r2n2q4
      case hy24r2n2q4 => (intro w hSw; (try dsimp only at hSw); (obtain ⟨hbA, hbC⟩ := HSEE.out _ hSw); first | (go_simp; done) | (go_simp; with_reducible rfl))
      refine wpAnyH_take (i := 4) (v := ?v24r2n2q5) rfl (by kernel_rfl) (by kernel_rfl) (by kernel_rfl) (fun _ _ _ h => h) (Or.inl ⟨by kernel_rfl, ?hy24r2n2q5⟩) (by assumption) ?hr24r2n2q5
      case hy24r2n2q5 => (intro w hSw; (try dsimp only at hSw); (obtain ⟨hbA, hbC⟩ := HSEE.out _ hSw); first | (go_simp; done) | (go_simp; with_reducible rfl))
      refine wpAnyH_take (i := 5) (v := undef) rfl (by kernel_rfl) (by kernel_rfl) (by kernel_rfl) (fun _ _ _ h => h) (Or.inr ⟨by kernel_rfl, rfl⟩) (by assumption) ?_
      refine wpAnyH_take (i := 6) (v := undef) rfl (by kernel_rfl) (by kernel_rfl) (by kernel_rfl) (fun _ _ _ h => h) (Or.inr ⟨by kernel_rfl, rfl⟩) (by assumption) ?_
      refine wpAnyH_take (i := 7) (v := undef) rfl (by kernel_rfl) (by kernel_rfl) (by kernel_rfl) (fun _ _ _ h => h) (Or.inr ⟨by kernel_rfl, rfl⟩) (by assumption) ?_
      refine wpAnyH_take (i := 8) (v := undef) rfl (by kernel_rfl) (by kernel_rfl) (by kernel_rfl) (fun _ _ _ h => h) (Or.inr ⟨by kernel_rfl, rfl⟩) (by assumption) ?_
      refine wpAnyH_take (i := 9) (v := undef) rfl (by kernel_rfl) (by kernel_rfl) (by kernel_rfl) (fun _ _ _ h => h) (Or.inr ⟨by kernel_rfl, rfl⟩) (by assumption) ?_
      refine wpAnyH_take (i := 10) (v := undef) rfl (by kernel_rfl) (by kernel_rfl) (by kernel_rfl) (fun _ _ _ h => h) (Or.inr ⟨by kernel_rfl, rfl⟩) (by assumption) ?_
      refine wpAnyH_take (i := 11) (v := ?v24r2n2q12) rfl (by kernel_rfl) (by kernel_rfl) (by kernel_rfl) (fun _ _ _ h => h) (Or.inl ⟨by kernel_rfl, ?hy24r2n2q12⟩) (by assumption) ?hr24r2n2q12
      case hy24r2n2q12 => (intro w hSw; (try dsimp only at hSw); (obtain ⟨hbA, hbC⟩ := HSEE.out _ hSw); first | (go_simp; done) | (go_simp; with_reducible rfl))
      refine wpAnyH_take (i := 12) (v := ?v24r2n2q13) rfl (by kernel_rfl) (by kernel_rfl) (by kernel_rfl) (fun _ _ _ h => h) (Or.inl ⟨by kernel_rfl, ?hy24r2n2q13⟩) (by assumption) ?hr24r2n2q13
      case hy24r2n2q13 => (intro w hSw; (try dsimp only at hSw); (obtain ⟨hbA, hbC⟩ := HSEE.out _ hSw); first | (go_simp; done) | (go_simp; with_reducible rfl))
      refine wpAnyH_take (i := 13) (v := undef) rfl (by kernel_rfl) (by kernel_rfl) (by kernel_rfl) (fun _ _ _ h => h) (Or.inr ⟨by kernel_rfl, rfl⟩) (by assumption) ?_
      refine wpAnyH_take (i := 14) (v := undef) rfl (by kernel_rfl) (by kernel_rfl) (by kernel_rfl) (fun _ _ _ h => h) (Or.inr ⟨by kernel_rfl, rfl⟩) (by assumption) ?_
      refine wpAnyH_take (i := 15) (v := undef) rfl (by kernel_rfl) (by kernel_rfl) (by kernel_rfl) (fun _ _ _ h => h) (Or.inr ⟨by kernel_rfl, rfl⟩) (by assumption) ?_
      refine wpAnyH_take (i := 16) (v := undef) rfl (by kernel_rfl) (by kernel_rfl) (by kernel_rfl) (fun _ _ _ h => h) (Or.inr ⟨by kernel_rfl, rfl⟩) (by assumption) ?_
      refine wpAnyH_take (i := 17) (v := undef) rfl (by kernel_rfl) (by kernel_rfl) (by kernel_rfl) (fun _ _ _ h => h) (Or.inr ⟨by kernel_rfl, rfl⟩) (by assumption) ?_
      refine wpAnyH_take (i := 18) (v := undef) rfl (by kernel_rfl) (by kernel_rfl) (by kernel_rfl) (fun _ _ _ h => h) (Or.inr ⟨by kernel_rfl, rfl⟩) (by assumption) ?_
      refine wpAnyH_take (i := 19) (v := undef) rfl (by kernel_rfl) (by kernel_rfl) (by kernel_rfl) (fun _ _ _ h => h) (Or.inr ⟨by kernel_rfl, rfl⟩) (by assumption) ?_
      refine wpAnyH_take (i := 20) (v := undef) rfl (by kernel_rfl) (by kernel_rfl) (by kernel_rfl) (fun _ _ _ h => h) (Or.inr ⟨by kernel_rfl, rfl⟩) (by assumption) ?_
      refine wpAnyH_take (i := 21) (v := undef) rfl (by kernel_rfl) (by kernel_rfl) (by kernel_rfl) (fun _ _ _ h => h) (Or.inr ⟨by kernel_rfl, rfl⟩) (by assumption) ?_
      refine wpAnyH_take (i := 22) (v := undef) rfl (by kernel_rfl) (by kernel_rfl) (by kernel_rfl) (fun _ _ _ h => h) (Or.inr ⟨by kernel_rfl, rfl⟩) (by assumption) ?_
      refine wpAnyH_take (i := 23) (v := undef) rfl (by kernel_rfl) (by kernel_rfl) (by kernel_rfl) (fun _ _ _ h => h) (Or.inr ⟨by kernel_rfl, rfl⟩) (by assumption) ?_
      refine wpAnyH_take (i := 24) (v := ?v24r2n2q25) rfl (by kernel_rfl) (by kernel_rfl) (by kernel_rfl) (fun _ _ _ h => h) (Or.inl ⟨by kernel_rfl, ?hy24r2n2q25⟩) (by assumption) ?hr24r2n2q25
      case hy24r2n2q25 => (intro w hSw; (try dsimp only at hSw); (obtain ⟨hbA, hbC⟩ := HSEE.out _ hSw); first | (go_simp; done) | (go_simp; with_reducible rfl))
      refine wpAnyH_done (by kernel_rfl) ?_ _
      clear hHeld
      refine NoPanic.normal ?_
      dsimp only [Exit.then]
      exact hMK _ _ ⟨by kernel_rfl, by kernel_rfl, by kernel_rfl, by kernel_rfl, by kernel_rfl, by kernel_rfl, by kernel_rfl, by kernel_rfl, HB.out.1.trans ((Below.refl _ _).drew.mono HB.out.1.size)⟩
  rintro ⟨tm1, ds⟩ X1 ⟨hts, hds, e0, e4, e5, e6, e11, e36, hb1⟩
  simp only at hts hds e0 e4 e5 e6 e11 e36
  subst hds
  apply_assumption
  rw [frame44 tm1 [] hts, e0, e4, e5, e6, e11, e36]
  clear hts e0 e4 e5 e6 e11 e36
  have HB1 := hidep hb1
  clear hb1 HSEE HB
  by_cases hjr : j < r
  · rw [decide_eq_true hjr]
    go_wp2
    refine ⟨LoopI.mk rfl ⟨rfl, rfl, rfl, rfl, rfl, j + 1, by omega, by show Value.int _ _ = _; go_num, HB1.out⟩, ?_⟩
    show r - _ < r - _
    simp [natI]; omega
  · rw [decide_eq_false hjr]
    have hjr2 : j = r := by omega
    subst hjr2
    have hbA := box1_cell (below_push HB1.out HW.out.2.1)
    have hbm := below_push HB1.out HW.out.2.2.2
    have hbM := box1_cell hbm
    have hfz : X1.frozen? ⟨Mb, 0, none⟩ = false := box_frozenT hbm 0
    have hmx : max (a : Int) ((k : Int) + (j : Int)) = ((max a (k + j) : Nat) : Int) := by omega
    have HBM := hidep hbm
    clear hbm hjr
    go_wp2
    all_goals
      refine bodyPost_end (results_none rfl _ _ _) rfl ?_
      refine ⟨rfl, ?_, (Turned.of_below HB1.out).setCell _ _ (.inr rfl)⟩
      rw [← hmx]
      first
        | exact heap_set HBM.out 0 _
        | (rw [Int.max_eq_right (by omega)]; exact heap_set HBM.out 0 _)
        | (rw [Int.max_eq_left (by omega)]; exact heap_set HBM.out 0 _)
end Go.Proofs.Ytcfjepcflanjbaa
