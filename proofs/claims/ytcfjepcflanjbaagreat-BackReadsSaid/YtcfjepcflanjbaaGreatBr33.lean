/- The code's Good: its closure. -/
import Derived.Test.YtcfjepcflanjbaaGreatBr02
import Derived.Test.YtcfjepcflanjbaaGreatBr32
namespace Go.Proofs.YtcfjepcflanjbaaGreat
open Go.RowKit Go.Lab Go.Shelf
set_option maxRecDepth 100000
def comm : List Int -> List Int -> Nat
  | x :: xs, y :: ys => if x = y then comm xs ys + 1 else 0
  | _, _ => 0
theorem zqc7 : ∀ a b : List Int, comm a b <= a.length /\ comm a b <= b.length
  | [], _ => by simp [comm]
  | _ :: _, [] => by simp [comm]
  | x :: xs, y :: ys => by
    have h := zqc7 xs ys
    unfold comm
    split
    · simp; omega
    · simp
theorem zqc1 : ∀ (a b : List Int) (k : Nat), k <= comm a b -> (ha : k < a.length) -> (hb : k < b.length) -> (a[k] = b[k] ↔ k + 1 <= comm a b)
  | [], _, _, _, ha, _ => by simp at ha
  | _ :: _, [], _, _, _, hb => by simp at hb
  | x :: xs, y :: ys, 0, _, _, _ => by
    unfold comm
    by_cases h : x = y
    · simp [h]
    · simp [h]
  | x :: xs, y :: ys, k + 1, hk, ha, hb => by
    unfold comm at hk ⊢
    by_cases h : x = y
    · rw [if_pos h] at hk ⊢
      have := zqc1 xs ys k (by omega) (by simpa using ha) (by simpa using hb)
      simp only [List.getElem_cons_succ]
      rw [this]
      omega
    · rw [if_neg h] at hk
      omega
theorem zqc6 (t : Array Value) (ds : List Deferred) (h : t.size = 44) : ({ tmps := t, defers := ds } : Act) = { tmps := #[slot t 0, slot t 1, slot t 2, slot t 3, slot t 4, slot t 5, slot t 6, slot t 7, slot t 8, slot t 9, slot t 10, slot t 11, slot t 12, slot t 13, slot t 14, slot t 15, slot t 16, slot t 17, slot t 18, slot t 19, slot t 20, slot t 21, slot t 22, slot t 23, slot t 24, slot t 25, slot t 26, slot t 27, slot t 28, slot t 29, slot t 30, slot t 31, slot t 32, slot t 33, slot t 34, slot t 35, slot t 36, slot t 37, slot t 38, slot t 39, slot t 40, slot t 41, slot t 42, slot t 43], defers := ds } :=
  (congrArg (fun x => ({ tmps := x, defers := ds } : Act)) (zq1e h)).trans (by kernel_rfl)
def GdM (W0 : World) (v0 v4 v5 v6 v11 : Value) (tb : Bool) : Act -> World -> Prop := fun a W => a.tmps.size = 44 /\ a.defers = [] /\ slot a.tmps 0 = v0 /\ slot a.tmps 4 = v4 /\ slot a.tmps 5 = v5 /\ slot a.tmps 6 = v6 /\ slot a.tmps 11 = v11 /\ slot a.tmps 36 = .bool tb /\ Below W0.heap.size W0 W
set_option maxHeartbeats 4000000 in
theorem good1_any (cv : Value) (C : List Int) (w0 : World) (A Cb Mb : Nat) (hC : BysAt w0 cv C) (hCl : C.length <= 8192) (k : Nat) (hk : k <= C.length) (a : Nat) (W : World) (hW : Below w0.heap.size w0 W) (hA : W.heap[A]? = some (.cells #[.int .i64 (k : Nat)] 3)) (hCb : W.heap[Cb]? = some (.cells #[cv] 23)) (hMb : W.heap[Mb]? = some (.cells #[.int .i64 (a : Nat)] 3)) (u : Value) (m : MvZ) (hu : BysAt W u m.cells) (hml : m.cells.length <= 12) :
    Calls Tryz.prog 80 #[u, .string m.text, .bool m.cap, .agg #[.int .i64 0, .int .i64 m.dst.st.lang, .bool m.dst.st.num, .bool m.dst.st.word, .int .i64 (m.dst.need : Nat), .bool m.dst.sw], .pointer (some ⟨A, 0, none⟩), .pointer (some ⟨Cb, 0, none⟩), .pointer (some ⟨Mb, 0, none⟩)] W
      fun e W' => e = .returned (.tuple #[]) /\ W'.heap[Mb]? = some (.cells #[.int .i64 ((max a (k + comm (C.drop k) m.cells) : Nat) : Int)] 3) /\ Turned (fun b => b = Mb) W W' := by
  obtain ⟨ua, uc, rfl, huc, hum⟩ := hu.1.form
  obtain ⟨ca, cc, rfl, hcc, hcm⟩ := hC.1.form
  unfold maxLen at hum hcm
  obtain ⟨mc, mt, mcap, md⟩ := m
  simp only at hu huc hml ⊢
  obtain ⟨n, hn⟩ : ∃ n, n = C.length := ⟨_, rfl⟩
  obtain ⟨c, hc⟩ : ∃ c, c = mc.length := ⟨_, rfl⟩
  have HN := hidep (And.intro hn hc)
  obtain ⟨r, hr⟩ : ∃ r, r = comm (C.drop k) mc := ⟨_, rfl⟩
  have hrle := zqc7 (C.drop k) mc
  rw [<- hr, List.length_drop, <- hn, <- hc] at hrle
  have HCM := hidep (fun j (hj : j <= r) ha hb => zqc1 (C.drop k) mc j (by rw [<- hr]; exact hj) ha hb)
  have HR := hidep hr
  have HU := hidep hu
  have HC := hidep hC
  rw [<- hn] at hCl hk hcc
  rw [<- hc] at huc hml ⊢
  rw [<- hr] at HCM ⊢
  have HW := hidep (And.intro hW (And.intro hA (And.intro hCb hMb)))
  clear hu hC hn hc hr hW hA hCb hMb
  go_enter Tryz.func80, Tryz.ntmps80
  go_upto_region 1 with (fail)
  refine zq9 (fun X => Below W.heap.size W X) ((Below.refl _ _).alloc (Nat.le_refl _) _) ?_
  intro X hX
  go_upto_region 2 with (fail)
  refine wp_loop (LoopI 44 (fun tm ds wr => (slot tm 0) = .slice ua c uc /\ (slot tm 4) = .pointer (some ⟨A, 0, none⟩) /\ (slot tm 5) = .pointer (some ⟨Cb, 0, none⟩) /\ (slot tm 6) = .pointer (some ⟨Mb, 0, none⟩) /\ ds = [] /\ ∃ j : Nat, j <= r /\ (slot tm 11) = .int .i64 (j : Nat) /\ Below W.heap.size W wr)) (fun a' wr => r - natI (a'.tmps.getD 11 undef)) ?glStart ?glRound
  case' glStart => refine LoopI.mk rfl ?_
  case' glRound => (rintro ⟨t, ds⟩ wr ⟨hts, hrel⟩; dsimp only at hts hrel; rw [zqc6 t ds hts])
  case glStart => exact ⟨rfl, rfl, rfl, rfl, rfl, 0, Nat.zero_le _, rfl, hX⟩
  clear hX
  obtain ⟨e0, e4, e5, e6, hds, j, hj, e11, hb⟩ := hrel
  subst hds
  rw [e0, e4, e5, e6, e11]
  clear e0 e4 e5 e6 e11 hts
  have hbA := zq5 (zq0 hb HW.out.2.1)
  have hbC := zq5 (zq0 hb HW.out.2.2.1)
  have hbM := zq0 hb HW.out.2.2.2
  have HB := hidep (And.intro hb hbM)
  have hw1 : IntKind.i64.wrap ((k : Int) + (j : Int)) = (k : Int) + (j : Int) := IntWalk.i64_in _ (by omega)
  have hw2 : IntKind.i64.wrap ((j : Int) + 1) = (j : Int) + 1 := IntWalk.i64_in _ (by omega)
  rw [<- HN.out.1] at hbC
  clear hb hbM
  have HSEE := hidep (fun (Z : World) (hZ : Below wr.heap.size wr Z) => by
    have h0 := HB.out.1.trans (hZ.mono HB.out.1.size)
    have h2 := zq5 (zq0 h0 HW.out.2.2.1)
    rw [<- HN.out.1] at h2
    exact And.intro (zq5 (zq0 h0 HW.out.2.1)) h2)
  clear hbA hbC
  go_upto_region 2 with (fail)
  refine zq17 (GdM W (.slice ua c uc) (.pointer (some ⟨A, 0, none⟩)) (.pointer (some ⟨Cb, 0, none⟩)) (.pointer (some ⟨Mb, 0, none⟩)) (.int .i64 (j : Nat)) (decide (j < r))) ?r2 ?_
  case r2 =>
    intro K' hMK
    by_cases hjc : j < c
    · have hjc1 : (j : Int) < (c : Int) := by omega
      by_cases hjn : k + j < n
      · have hjn1 : (k : Int) + (j : Int) < (n : Int) := by omega
        have hwn : ((k : Int) + (j : Int)).toNat = k + j := by omega
        have hj0 : (0 : Int) <= (k : Int) + (j : Int) := by omega
        have hj00 : (0 : Int) <= (j : Int) := by omega
        obtain ⟨cb, co, x, hx, rfl, hcb, hcx, _, _⟩ := HC.out.get (show k + j < C.length from by rw [<- HN.out.1]; exact hjn)
        obtain ⟨ub, uo, y, hy, rfl, hub, hcy, _, _⟩ := BysAt.get (l := mc) (by have h := HU.out; exact h) (show j < mc.length from by rw [<- HN.out.2]; exact hjc)
        have heq : (x = y) ↔ j < r := by
          have h := HCM.out j hj (by rw [List.length_drop, <- HN.out.1]; omega) (by rw [<- HN.out.2]; exact hjc)
          rw [List.getElem_drop, hx, hy] at h
          omega
        have HXY := hidep (fun (Z : World) (hZ : Below wr.heap.size wr Z) => by
          have h0 := HB.out.1.trans (hZ.mono HB.out.1.size)
          have h1 := (h0.cell (p := ⟨ub, uo + j, none⟩) hub).trans hcy
          have h2 := HW.out.1.trans (h0.mono HW.out.1.size)
          exact And.intro h1 ((h2.cell (p := ⟨cb, co + (k + j), none⟩) hcb).trans hcx))
        clear hx hy hcb hcx hub hcy
        obtain ⟨eb, heb⟩ : ∃ e, e = (x == y) := ⟨_, rfl⟩
        have he : (x == y) = eb := heb.symm
        have hd : decide (j < r) = eb := by
          rw [heb]
          by_cases hxy : x = y
          · rw [decide_eq_true (heq.1 hxy)]; simp [hxy]
          · rw [decide_eq_false (fun h => hxy (heq.2 h))]; simp [hxy]
        have HD := hidep hd
        rw [hd] at hMK
        clear heq heb hd
        refine wp_region_noPanic (wp_region_held_drew (S := (fun Z => Below wr.heap.size wr Z)) (by kernel_rfl) ?hSz0 (fun hHeld => ?hRz0))
        case hSz0 => ((try dsimp only); (exact (Below.refl _ _).drew))
        refine tkC 0 rfl ?_
        refine tkC 1 rfl ?_
        refine tkC 2 rfl ?_
        refine tkC 3 rfl ?_
        refine tkC 4 rfl ?_
        refine tkB 5 rfl (.inl ⟨by kernel_rfl, fun w hSw => by (obtain ⟨hbA, hbC⟩ := HSEE.out _ hSw; obtain ⟨hy, hx⟩ := HXY.out _ hSw); go_simp; first | done | with_reducible rfl⟩) ?_
        refine tkC 6 rfl ?_
        refine tkC 7 rfl ?_
        refine tkB 8 rfl (.inl ⟨by kernel_rfl, fun w hSw => by (obtain ⟨hbA, hbC⟩ := HSEE.out _ hSw; obtain ⟨hy, hx⟩ := HXY.out _ hSw); go_simp; first | done | with_reducible rfl⟩) ?_
        refine tkC 9 rfl ?_
        refine tkC 10 rfl ?_
        refine tkC 11 rfl ?_
        refine tkC 12 rfl ?_
        refine tkB 13 rfl (.inl ⟨by kernel_rfl, fun w hSw => by (obtain ⟨hbA, hbC⟩ := HSEE.out _ hSw; obtain ⟨hy, hx⟩ := HXY.out _ hSw); go_simp; first | done | with_reducible rfl⟩) ?_
        refine tkB 14 rfl (.inl ⟨by kernel_rfl, fun w hSw => by (obtain ⟨hbA, hbC⟩ := HSEE.out _ hSw; obtain ⟨hy, hx⟩ := HXY.out _ hSw); go_simp; first | done | with_reducible rfl⟩) ?_
        refine tkC 15 rfl ?_
        refine tkC 16 rfl ?_
        refine tkC 17 rfl ?_
        refine tkB 18 rfl (.inl ⟨by kernel_rfl, fun w hSw => by (obtain ⟨hbA, hbC⟩ := HSEE.out _ hSw; obtain ⟨hy, hx⟩ := HXY.out _ hSw); go_simp; first | done | with_reducible rfl⟩) ?_
        refine tkC 19 rfl ?_
        refine tkC 20 rfl ?_
        refine tkC 21 rfl ?_
        refine tkB 22 rfl (.inl ⟨by kernel_rfl, fun w hSw => by (obtain ⟨hbA, hbC⟩ := HSEE.out _ hSw; obtain ⟨hy, hx⟩ := HXY.out _ hSw); go_simp; first | done | with_reducible rfl⟩) ?_
        refine tkC 23 rfl ?_
        refine tkC 24 rfl ?_
        refine wpAnyH_done (by kernel_rfl) ?_ _
        clear hHeld
        refine NoPanic.normal ?_
        dsimp only [Exit.then]
        (refine hMK _ _ ⟨?_, ?_, ?_, ?_, ?_, ?_, ?_, ?_, HB.out.1.trans ((Below.refl _ _).drew.mono HB.out.1.size)⟩ <;> kernel_rfl)
      · have hjn1 : ¬ (k : Int) + (j : Int) < (n : Int) := by omega
        have hd : decide (j < r) = false := decide_eq_false (by omega)
        rw [hd] at hMK
        clear hd
        refine wp_region_noPanic (wp_region_held_drew (S := (fun Z => Below wr.heap.size wr Z)) (by kernel_rfl) ?hSz1 (fun hHeld => ?hRz1))
        case hSz1 => ((try dsimp only); (exact (Below.refl _ _).drew))
        refine tkC 0 rfl ?_
        refine tkC 1 rfl ?_
        refine tkC 2 rfl ?_
        refine tkC 3 rfl ?_
        refine tkC 4 rfl ?_
        refine tkB 5 rfl (.inl ⟨by kernel_rfl, fun w hSw => by (obtain ⟨hbA, hbC⟩ := HSEE.out _ hSw); go_simp; first | done | with_reducible rfl⟩) ?_
        refine tkC 6 rfl ?_
        refine tkC 7 rfl ?_
        refine tkB 8 rfl (.inl ⟨by kernel_rfl, fun w hSw => by (obtain ⟨hbA, hbC⟩ := HSEE.out _ hSw); go_simp; first | done | with_reducible rfl⟩) ?_
        refine tkC 9 rfl ?_
        refine tkC 10 rfl ?_
        refine tkC 11 rfl ?_
        refine tkC 12 rfl ?_
        refine tkB 13 rfl (.inr ⟨by kernel_rfl, rfl⟩) ?_
        refine tkB 14 rfl (.inr ⟨by kernel_rfl, rfl⟩) ?_
        refine tkB 15 rfl (.inr ⟨by kernel_rfl, rfl⟩) ?_
        refine tkB 16 rfl (.inr ⟨by kernel_rfl, rfl⟩) ?_
        refine tkB 17 rfl (.inr ⟨by kernel_rfl, rfl⟩) ?_
        refine tkB 18 rfl (.inr ⟨by kernel_rfl, rfl⟩) ?_
        refine tkB 19 rfl (.inr ⟨by kernel_rfl, rfl⟩) ?_
        refine tkB 20 rfl (.inr ⟨by kernel_rfl, rfl⟩) ?_
        refine tkB 21 rfl (.inr ⟨by kernel_rfl, rfl⟩) ?_
        refine tkB 22 rfl (.inr ⟨by kernel_rfl, rfl⟩) ?_
        refine tkB 23 rfl (.inr ⟨by kernel_rfl, rfl⟩) ?_
        refine tkC 24 rfl ?_
        refine wpAnyH_done (by kernel_rfl) ?_ _
        clear hHeld
        refine NoPanic.normal ?_
        dsimp only [Exit.then]
        (refine hMK _ _ ⟨?_, ?_, ?_, ?_, ?_, ?_, ?_, ?_, HB.out.1.trans ((Below.refl _ _).drew.mono HB.out.1.size)⟩ <;> kernel_rfl)
    · have hjc1 : ¬ (j : Int) < (c : Int) := by omega
      have hd : decide (j < r) = false := decide_eq_false (by omega)
      rw [hd] at hMK
      clear hd
      refine wp_region_noPanic (wp_region_held_drew (S := (fun Z => Below wr.heap.size wr Z)) (by kernel_rfl) ?hSz2 (fun hHeld => ?hRz2))
      case hSz2 => ((try dsimp only); (exact (Below.refl _ _).drew))
      refine tkC 0 rfl ?_
      refine tkC 1 rfl ?_
      refine tkC 2 rfl ?_
      refine tkC 3 rfl ?_
      refine tkC 4 rfl ?_
      refine tkB 5 rfl (.inr ⟨by kernel_rfl, rfl⟩) ?_
      refine tkB 6 rfl (.inr ⟨by kernel_rfl, rfl⟩) ?_
      refine tkB 7 rfl (.inr ⟨by kernel_rfl, rfl⟩) ?_
      refine tkB 8 rfl (.inr ⟨by kernel_rfl, rfl⟩) ?_
      refine tkB 9 rfl (.inr ⟨by kernel_rfl, rfl⟩) ?_
      refine tkB 10 rfl (.inr ⟨by kernel_rfl, rfl⟩) ?_
      refine tkC 11 rfl ?_
      refine tkC 12 rfl ?_
      refine tkB 13 rfl (.inr ⟨by kernel_rfl, rfl⟩) ?_
      refine tkB 14 rfl (.inr ⟨by kernel_rfl, rfl⟩) ?_
      refine tkB 15 rfl (.inr ⟨by kernel_rfl, rfl⟩) ?_
      refine tkB 16 rfl (.inr ⟨by kernel_rfl, rfl⟩) ?_
      refine tkB 17 rfl (.inr ⟨by kernel_rfl, rfl⟩) ?_
      refine tkB 18 rfl (.inr ⟨by kernel_rfl, rfl⟩) ?_
      refine tkB 19 rfl (.inr ⟨by kernel_rfl, rfl⟩) ?_
      refine tkB 20 rfl (.inr ⟨by kernel_rfl, rfl⟩) ?_
      refine tkB 21 rfl (.inr ⟨by kernel_rfl, rfl⟩) ?_
      refine tkB 22 rfl (.inr ⟨by kernel_rfl, rfl⟩) ?_
      refine tkB 23 rfl (.inr ⟨by kernel_rfl, rfl⟩) ?_
      refine tkC 24 rfl ?_
      refine wpAnyH_done (by kernel_rfl) ?_ _
      clear hHeld
      refine NoPanic.normal ?_
      dsimp only [Exit.then]
      (refine hMK _ _ ⟨?_, ?_, ?_, ?_, ?_, ?_, ?_, ?_, HB.out.1.trans ((Below.refl _ _).drew.mono HB.out.1.size)⟩ <;> kernel_rfl)
  rintro ⟨tm1, ds⟩ X1 ⟨hts, hds, e0, e4, e5, e6, e11, e36, hb1⟩
  simp only at hts hds e0 e4 e5 e6 e11 e36
  subst hds
  apply_assumption
  rw [zqc6 tm1 [] hts, e0, e4, e5, e6, e11, e36]
  clear hts e0 e4 e5 e6 e11 e36
  have HB1 := hidep hb1
  clear hb1 HSEE HB
  by_cases hjr : j < r
  · rw [decide_eq_true hjr]
    go_wp2
    refine ⟨LoopI.mk rfl ⟨rfl, rfl, rfl, rfl, rfl, j + 1, by omega, by show Value.int _ _ = _; go_num, HB1.out⟩, ?_⟩
    show r - _ < r - _
    simp [natI]; omega
  · rw [decide_eq_false hjr]
    have hjr2 : j = r := by omega
    subst hjr2
    have hbA := zq5 (zq0 HB1.out HW.out.2.1)
    have hbm := zq0 HB1.out HW.out.2.2.2
    have hbM := zq5 hbm
    have hfz : X1.frozen? ⟨Mb, 0, none⟩ = false := zq31 hbm 0
    have hmx : max (a : Int) ((k : Int) + (j : Int)) = ((max a (k + j) : Nat) : Int) := by omega
    have HBM := hidep hbm
    clear hbm hjr
    go_wp2
    all_goals
      refine bodyPost_end (results_none rfl _ _ _) rfl ?_
      refine ⟨rfl, ?_, (Turned.of_below HB1.out).setCell _ _ (.inr rfl)⟩
      rw [<- hmx]
      first
        | exact zq12 HBM.out 0 _
        | (rw [Int.max_eq_right (by omega)]; exact zq12 HBM.out 0 _)
        | (rw [Int.max_eq_left (by omega)]; exact zq12 HBM.out 0 _)
end Go.Proofs.YtcfjepcflanjbaaGreat
/- Contracts: check and checked; the taker of Good. -/
namespace Go.Proofs.YtcfjepcflanjbaaGreat
open Go.RowKit Go.Lab Go.Shelf
set_option maxRecDepth 100000
def zq29 (T : TabZ) (C : List Int) : Int := if zq8 T ≠ 0 then zq8 T else if 8192 < C.length then 4 else 0
set_option maxHeartbeats 1000000 in
theorem zqb5 (V : TabV) (T : TabZ) (cv : Value) (C : List Int) (w : World) (hT : TabIn w V T) (hok : TabOk T) (hC : BysAt w cv C) :
    Calls Tryz.prog 66 #[V.v, cv] w fun e w' => e = .returned (.int .i64 (zq29 T C)) /\ Below w.heap.size w w' := by
  have HV := hidep (fun W (hW : Below w.heap.size w W) => zqb6 V T W (hT.below hW) hok)
  obtain ⟨ca, cc, rfl, hcc, hcm⟩ := hC.1.form
  unfold maxLen at hcm
  have HZ := hidep (show zq29 T C = if zq8 T ≠ 0 then zq8 T else if 8192 < C.length then 4 else 0 from rfl)
  obtain ⟨E, hE⟩ : ∃ E, E = zq8 T := ⟨_, rfl⟩
  rw [<- hE] at HV HZ
  obtain ⟨n, hn⟩ : ∃ n, n = C.length := ⟨_, rfl⟩
  rw [<- hn] at HZ hcc ⊢
  have hb0 := (Below.refl w.heap.size w).alloc (Nat.le_refl _) (.cells #[V.a, V.b, V.d, V.c, V.n, V.e, V.s] 29)
  have HB0 := hidep hb0
  unfold TabV.v at HV ⊢
  clear hT hok hC hE hn hb0
  by_cases hE0 : E = 0
  · have hne : (E != 0) = false := by simp [hE0]
    by_cases hn2 : (n : Int) > 8192
    · have HF := hidep (HZ.out.trans (by rw [if_neg (by simp [hE0]), if_pos (by omega)]))
      clear hE0
      go_enter Tryz.func66, Tryz.ntmps66
      go_wp2_with (go_at_call 28; refine (HV.out _ HB0.out).mono ?_; rintro e w1 ⟨rfl, hb1⟩)
      go_ret
      exact ⟨zqb (congrArg (Value.int .i64) HF.out.symm), HB0.out.trans (hb1.mono HB0.out.size)⟩
    · have HF := hidep (HZ.out.trans (by rw [if_neg (by simp [hE0]), if_neg (by omega)]))
      clear hE0
      go_enter Tryz.func66, Tryz.ntmps66
      go_wp2_with (go_at_call 28; refine (HV.out _ HB0.out).mono ?_; rintro e w1 ⟨rfl, hb1⟩)
      go_ret
      exact ⟨zqb (congrArg (Value.int .i64) HF.out.symm), HB0.out.trans (hb1.mono HB0.out.size)⟩
  · have hne : (E != 0) = true := by simp [hE0]
    have HF := hidep (HZ.out.trans (by rw [if_pos hE0]))
    clear hE0
    go_enter Tryz.func66, Tryz.ntmps66
    go_wp2_with (go_at_call 28; refine (HV.out _ HB0.out).mono ?_; rintro e w1 ⟨rfl, hb1⟩)
    go_ret
    exact ⟨zqb (congrArg (Value.int .i64) HF.out.symm), HB0.out.trans (hb1.mono HB0.out.size)⟩
set_option maxHeartbeats 1000000 in
theorem zq93 (V : TabV) (T : TabZ) (cv : Value) (C : List Int) (w : World) (hT : TabIn w V T) (hok : TabOk T) (hC : BysAt w cv C) :
    Calls Tryz.prog 71 #[V.v, cv] w fun e w' => e = .returned (.int .i64 (zq29 T C)) /\ Below w.heap.size w w' := by
  have HV := hidep (fun W (hW : Below w.heap.size w W) => validR_any V T W (hT.below hW) hok)
  obtain ⟨ca, cc, rfl, hcc, hcm⟩ := hC.1.form
  unfold maxLen at hcm
  have HZ := hidep (show zq29 T C = if zq8 T ≠ 0 then zq8 T else if 8192 < C.length then 4 else 0 from rfl)
  obtain ⟨E, hE⟩ : ∃ E, E = zq8 T := ⟨_, rfl⟩
  rw [<- hE] at HV HZ
  obtain ⟨n, hn⟩ : ∃ n, n = C.length := ⟨_, rfl⟩
  rw [<- hn] at HZ hcc ⊢
  have hb0 := (Below.refl w.heap.size w).alloc (Nat.le_refl _) (.cells #[V.a, V.b, V.d, V.c, V.n, V.e, V.s] 29)
  have HB0 := hidep hb0
  unfold TabV.v at HV ⊢
  clear hT hok hC hE hn hb0
  by_cases hE0 : E = 0
  · have hne : (E != 0) = false := by simp [hE0]
    by_cases hn2 : (n : Int) > 8192
    · have HF := hidep (HZ.out.trans (by rw [if_neg (by simp [hE0]), if_pos (by omega)]))
      clear hE0
      go_enter Tryz.func71, Tryz.ntmps71
      go_wp2_with (go_at_call 33; refine (HV.out _ HB0.out).mono ?_; rintro e w1 ⟨rfl, hb1⟩)
      go_ret
      exact ⟨zqb (congrArg (Value.int .i64) HF.out.symm), HB0.out.trans (hb1.mono HB0.out.size)⟩
    · have HF := hidep (HZ.out.trans (by rw [if_neg (by simp [hE0]), if_neg (by omega)]))
      clear hE0
      go_enter Tryz.func71, Tryz.ntmps71
      go_wp2_with (go_at_call 33; refine (HV.out _ HB0.out).mono ?_; rintro e w1 ⟨rfl, hb1⟩)
      go_ret
      exact ⟨zqb (congrArg (Value.int .i64) HF.out.symm), HB0.out.trans (hb1.mono HB0.out.size)⟩
  · have hne : (E != 0) = true := by simp [hE0]
    have HF := hidep (HZ.out.trans (by rw [if_pos hE0]))
    clear hE0
    go_enter Tryz.func71, Tryz.ntmps71
    go_wp2_with (go_at_call 33; refine (HV.out _ HB0.out).mono ?_; rintro e w1 ⟨rfl, hb1⟩)
    go_ret
    exact ⟨zqb (congrArg (Value.int .i64) HF.out.symm), HB0.out.trans (hb1.mono HB0.out.size)⟩
/-! ### the greatest beginning -/
def gdM (C : List Int) (k a : Nat) (m : MvZ) : Nat := max a (k + comm (C.drop k) m.cells)
def gdP (T : TabZ) (C : List Int) (k a : Nat) (p : PlZ) : Nat := (zqa T p).foldl (gdM C k) a
def gdRow (T : TabZ) (C : List Int) (k a : Nat) (ps : List PlZ) : Nat := ps.foldl (gdP T C k) a
def zq5c (T : TabZ) (C : List Int) (ls : List (List PlZ)) : Nat -> Nat
  | 0 => 0
  | k + 1 => gdRow T C k (zq5c T C ls k) (ls.getD k [])
def goodZ (T : TabZ) (C : List Int) : Nat := zq5c T C (liveZ T C) (C.length + 1)
def GdJ (w0 : World) (C : List Int) (A Mb k a : Nat) : Hold := fun d B W => Below w0.heap.size w0 W /\ W.heap[A]? = some (.cells #[.int .i64 (k : Nat)] 3) /\ W.heap[Mb]? = some (.cells #[.int .i64 ((d.foldl (gdM C k) a : Nat) : Int)] 3) /\ w0.heap.size <= A /\ w0.heap.size <= Mb /\ A ≠ Mb /\ ∀ b, B b ↔ b = A \/ b = Mb
theorem gd_taker (T : TabZ) (cv : Value) (C : List Int) (w0 : World) (A Cb Mb : Nat) (hv : zq8 T = 0) (hC : BysAt w0 cv C) (hCl : C.length <= 8192) (hCb : w0.heap[Cb]? = some (.cells #[cv] 23)) (k : Nat) (hk : k <= C.length) (a : Nat) (p : PlZ) (hp : PlOk p) :
    Taker w0 T p 80 #[.pointer (some ⟨A, 0, none⟩), .pointer (some ⟨Cb, 0, none⟩), .pointer (some ⟨Mb, 0, none⟩)] (GdJ w0 C A Mb k a) where
  low := fun d B W h => by
    obtain ⟨h1, h2, h3, h4, h5, _, h6⟩ := h
    refine ⟨h1, fun b hb => ?_⟩
    rcases (h6 b).1 hb with rfl | rfl
    · exact ⟨h4, lt_of_block h2⟩
    · exact ⟨h5, lt_of_block h3⟩
  grow := fun d B N W W' h ht hN => by
    obtain ⟨h1, h2, h3, h4, h5, h7, h6⟩ := h
    exact ⟨zq19 h1 (Nat.le_refl _) ht (fun b e => (hN b e).2), ht.cells h2 (fun e => (hN _ e).1 ((h6 _).2 (.inl rfl))), ht.cells h3 (fun e => (hN _ e).1 ((h6 _).2 (.inr rfl))), h4, h5, h7, h6⟩
  ent := fun _ _ => rfl
  step := fun d m rest hm B W u h hu => by
    obtain ⟨h1, h2, h3, h4, h5, h7, h6⟩ := h
    have hmem : m ∈ zqa T p := by rw [hm]; simp
    have hmm := zq2f hv hp hmem
    refine (good1_any cv C w0 A Cb Mb hC hCl k hk _ W h1 h2 (zq0 h1 hCb) h3 u m hu hmm.2.2.1).mono ?_
    rintro e W' ⟨rfl, g1, g2⟩
    refine ⟨rfl, B, ⟨zq19 h1 (Nat.le_refl _) g2 (fun b e => by rw [e]; exact h5), g2.cells h2 h7, ?_, h4, h5, h7, h6⟩, g2.mono (fun x _ hx => (h6 x).2 (.inr hx)), fun b _ hB => hB⟩
    rw [List.foldl_append]
    exact g1
end Go.Proofs.YtcfjepcflanjbaaGreat
