/- Contract: the closure of the code's texts: the texts of a move put behind those in hand. -/
import Derived.Test.YtcfjepcflanjbaaGreatBr02
import Derived.Test.YtcfjepcflanjbaaGreatBr22
import Derived.Test.YtcfjepcflanjbaaGreatBr26
import Derived.Test.YtcfjepcflanjbaaGreatBr27
namespace Go.Proofs.YtcfjepcflanjbaaGreat
open Go.RowKit Go.Lab Go.Shelf
set_option maxRecDepth 100000
theorem slSymss : SlT Tryz.prog 42 31 (.slice none 0 0) 1 24 := ⟨by kernel_rfl, by kernel_rfl, rfl, by decide⟩
theorem symss_two {w : World} {g : Nat} {u1 u2 : Value} {a b : List Sym} (hg : w.heap[g]? = some (.cells #[u1, u2] 31)) (h1 : SymsAt w u1 a) (h2 : SymsAt w u2 b) : SymssAt w (.slice (some ⟨g, 0, none⟩) 2 2) [a, b] := by
  refine ⟨[u1, u2], rfl, zq8a (k := 1) hg rfl (by decide), fun i hi hi' => ?_⟩
  match i, hi, hi' with
  | 0, _, _ => exact h1
  | 1, _, _ => exact h2
theorem Turned.thenV {T U : Nat -> Prop} {a b c : World} (h : Turned T a b) (k : Turned U b c) (hU : ∀ x, x < a.heap.size -> U x -> T x) : Turned T a c :=
  ⟨k.os.trans h.os, k.tape.trans h.tape, k.output.trans h.output, Nat.le_trans h.size k.size, fun x hx hT => (k.block x (Nat.lt_of_lt_of_le hx h.size) (fun e => hT (hU x hx e))).trans (h.block x hx hT)⟩
structure TxC (w0 : World) (LB : Nat) (v : Value) (us : List Value) (L : List (List Sym)) (W : World) : Prop where
  low : Below w0.heap.size w0 W
  lo : w0.heap.size <= LB
  box : W.heap[LB]? = some (.cells #[v] 42)
  row : W.ownsRow w0.heap.size 31 1 v us.length us
  len : us.length = L.length
  rows : ∀ i (h : i < us.length) (h' : i < L.length), W.ownsRow w0.heap.size 39 2 us[i] L[i].length (symsC L[i])
def TxB (LB : Nat) (v : Value) (us : List Value) (b : Nat) : Prop := b = LB \/ v.ownBlock = some b \/ ∃ u ∈ us, u.ownBlock = some b
section
variable {w0 W W' : World} {LB : Nat} {v : Value} {us : List Value} {L : List (List Sym)}
theorem TxC.lt (h : TxC w0 LB v us L W) : ∀ b, TxB LB v us b -> w0.heap.size <= b /\ b < W.heap.size := by
  rintro b (rfl | e | ⟨u, hu, e⟩)
  · exact ⟨h.lo, lt_of_block h.box⟩
  · exact h.row.lt b e
  · obtain ⟨i, hi, rfl⟩ := List.getElem_of_mem hu
    exact (h.rows i hi (by rw [<- h.len]; exact hi)).lt b e
theorem TxC.turned {N : Nat -> Prop} (h : TxC w0 LB v us L W) (ht : Turned N W W') (hN : ∀ b, N b -> ¬ TxB LB v us b /\ w0.heap.size <= b) : TxC w0 LB v us L W' :=
  ⟨zq19 h.low (Nat.le_refl _) ht (fun b e => (hN b e).2), h.lo, ht.cells h.box (fun e => (hN _ e).1 (.inl rfl)), zq32 h.row ht (fun g hg e => (hN g e).1 (.inr (.inl hg))), h.len,
    fun i hi hi' => zq32 (h.rows i hi hi') ht (fun g hg e => (hN g e).1 (.inr (.inr ⟨_, List.getElem_mem hi, hg⟩)))⟩
theorem TxC.below (h : TxC w0 LB v us L W) (hb : Below W.heap.size W W') : TxC w0 LB v us L W' := h.turned (N := fun _ => False) (Turned.of_below hb) (fun _ e => e.elim)
theorem TxC.push (h : TxC w0 LB v us L W) {W6 w7 : World} (hb : Below W.heap.size W W6) {u v' : Value} {x : List Sym} (hu : W6.ownsRow W.heap.size 39 2 u x.length (symsC x)) (ho : w7.ownsRow w0.heap.size 31 1 v' (us.length + 1) (us ++ [u])) (hg : W6.grownBy w7 v.ownBlock) (hown : v'.ownBlock = v.ownBlock \/ v'.ownBlock = some W6.heap.size) :
    TxC w0 LB v' (us ++ [u]) (L ++ [x]) (w7.setCell ⟨LB, 0, none⟩ v') /\ Turned (TxB LB v us) W (w7.setCell ⟨LB, 0, none⟩ v') /\ ∀ b, b < W.heap.size -> TxB LB v' (us ++ [u]) b -> TxB LB v us b := by
  have h6 := h.below hb
  have hvL : v.ownBlock ≠ some LB := fun e => by
    obtain ⟨cur2, h2⟩ := zq1d h6.row e
    rw [h6.box] at h2
    injection h2 with h2
    injection h2 with _ h3 _
    exact absurd h3 (by decide)
  have hT6 : Turned (fun b => v.ownBlock = some b) W6 w7 := ⟨hg.os, hg.tape, hg.output, hg.size, fun b hb2 e => hg.block b hb2 (fun e2 => e e2.symm)⟩
  have hS : Turned (fun b => b = LB) w7 (w7.setCell ⟨LB, 0, none⟩ v') := (Turned.refl _ _).setCell ⟨LB, 0, none⟩ v' (.inr rfl)
  have hT7 : Turned (TxB LB v us) W (w7.setCell ⟨LB, 0, none⟩ v') := by
    have h1 := (Turned.of_below (T := TxB LB v us) hb).trans (hT6.mono (fun x _ hx => .inr (.inl hx)))
    exact h1.trans (hS.mono (fun x _ hx => .inl hx))
  have hb7 := hT6.cells h6.box (fun e => hvL e)
  have rowne : ∀ {i e k n : Nat} {y : Value} {xs : List Value}, W6.ownsRow e 39 k y n xs -> ∀ g, y.ownBlock = some g -> g ≠ LB /\ v.ownBlock ≠ some g := fun {_ _ _ _ _ _} hy g hgy => by
    obtain ⟨cur2, h2⟩ := zq1d hy hgy
    refine ⟨fun e => ?_, fun e => ?_⟩
    · rw [e, h6.box] at h2
      injection h2 with h2
      injection h2 with _ h3 _
      exact absurd h3 (by decide)
    · obtain ⟨cur3, h3⟩ := zq1d h6.row e
      rw [h3] at h2
      injection h2 with h2
      injection h2 with _ h4 _
      exact absurd h4 (by decide)
  have move : ∀ {e k n : Nat} {y : Value} {xs : List Value}, W6.ownsRow e 39 k y n xs -> (w7.setCell ⟨LB, 0, none⟩ v').ownsRow e 39 k y n xs := fun {_ _ _ _ _} hy =>
    zq32 (zq32 hy hT6 (fun g hgy => (rowne (i := 0) hy g hgy).2)) hS (fun g hgy => (rowne (i := 0) hy g hgy).1)
  have hvL' : v'.ownBlock ≠ some LB := fun e => by
    rcases hown with h1 | h1
    · exact hvL (h1 ▸ e)
    · rw [h1] at e
      injection e with e
      have := lt_of_block h6.box
      omega
  refine ⟨⟨zq19 h.low (Nat.le_refl _) hT7 (fun b hB => (h.lt b hB).1), h.lo, ?_, ?_, by simp [h.len], fun i hi hi' => ?_⟩, hT7, ?_⟩
  · rw [zq12 hb7 0 v']
    rfl
  · rw [List.length_append, List.length_singleton]
    exact zq32 ho hS (fun g hgy e => hvL' (e ▸ hgy))
  · by_cases hiu : i < us.length
    · rw [List.getElem_append_left hiu, List.getElem_append_left (by rw [<- h.len]; exact hiu)]
      exact move (h6.rows i hiu (by rw [<- h.len]; exact hiu))
    · have hie : i = us.length := by simp at hi; omega
      subst hie
      rw [List.getElem_append_right (Nat.le_refl _), List.getElem_append_right (by rw [h.len]; exact Nat.le_refl _)]
      simp only [h.len, Nat.sub_self, List.getElem_cons_zero]
      exact move (zqca hu h.low.size)
  · rintro b hb2 (e | e | ⟨y, hy, e⟩)
    · exact .inl e
    · rcases hown with h1 | h1
      · exact .inr (.inl (h1 ▸ e))
      · rw [h1] at e
        injection e with e
        have := hb.size
        omega
    · rcases List.mem_append.1 hy with hy | hy
      · exact .inr (.inr ⟨y, hy, e⟩)
      · rw [List.mem_singleton] at hy
        subst hy
        have := (hu.lt b e).1
        omega
end
theorem frame50 (t : Array Value) (ds : List Deferred) (h : t.size = 50) : ({ tmps := t, defers := ds } : Act) = { tmps := #[slot t 0, slot t 1, slot t 2, slot t 3, slot t 4, slot t 5, slot t 6, slot t 7, slot t 8, slot t 9, slot t 10, slot t 11, slot t 12, slot t 13, slot t 14, slot t 15, slot t 16, slot t 17, slot t 18, slot t 19, slot t 20, slot t 21, slot t 22, slot t 23, slot t 24, slot t 25, slot t 26, slot t 27, slot t 28, slot t 29, slot t 30, slot t 31, slot t 32, slot t 33, slot t 34, slot t 35, slot t 36, slot t 37, slot t 38, slot t 39, slot t 40, slot t 41, slot t 42, slot t 43, slot t 44, slot t 45, slot t 46, slot t 47, slot t 48, slot t 49], defers := ds } :=
  (congrArg (fun x => ({ tmps := x, defers := ds } : Act)) (zq1e h)).trans (by kernel_rfl)
def TcM (w0 W0 : World) (LB : Nat) (v : Value) (us : List Value) (L : List (List Sym)) (P : Nat) (po : Obj) (v0 v1 v2 v4 v5 v6 v7 v8 : Value) (tb : Bool) : Act -> World -> Prop := fun a W => a.tmps.size = 50 /\ a.defers = [] /\ slot a.tmps 0 = v0 /\ slot a.tmps 1 = v1 /\ slot a.tmps 2 = v2 /\ slot a.tmps 4 = v4 /\ slot a.tmps 5 = v5 /\ slot a.tmps 6 = v6 /\ slot a.tmps 7 = v7 /\ slot a.tmps 8 = v8 /\ slot a.tmps 12 = .pointer (some ⟨P, 0, none⟩) /\ slot a.tmps 23 = .bool tb /\ TxC w0 LB v us L W /\ W.heap[P]? = some po /\ Below W0.heap.size W0 W
def VTc (w0 W : World) (LB : Nat) (v : Value) (us : List Value) (L K : List (List Sym)) (pre : List Sym) (jv : Value) (wr : World) : Prop :=
  ∃ (j : Nat) (v' : Value) (us' : List Value), j <= K.length /\ jv = .int .i64 (j : Nat) /\ TxC w0 LB v' us' (L ++ (K.take j).map (pre ++ ·)) wr /\ Turned (TxB LB v us) W wr /\ ∀ b, b < W.heap.size -> TxB LB v' us' b -> TxB LB v us b
set_option maxHeartbeats 4000000 in
theorem texts1_any (V : TabV) (cv : Value) (C : List Int) (w0 : World) (R Rb A Kb Mm LB Pb N : Nat) (g : Nat × PlZ -> Value) (p : PlZ) (k : Nat) (hR : w0.heap[R]? = some (RdBox V cv)) (hRb : w0.heap[Rb]? = some (.cells #[.pointer (some ⟨R, 0, none⟩)] 117)) (hA : w0.heap[A]? = some (.cells #[.int .i64 (k : Nat)] 3))
    (hKb : w0.heap[Kb]? = some (.cells #[.map (some Mm)] 155)) (hMm : MapIs Tryz.prog 133 zq4d zq34 (.slice none 0 0) w0 Mm N g) (hPb : w0.heap[Pb]? = some (PlBox (k : Nat) p)) (hC : BysAt w0 cv C) (hCl : C.length <= 8192) (hk : k <= C.length)
    (v : Value) (us : List Value) (L : List (List Sym)) (W : World) (hL : TxC w0 LB v us L W) (hLn : L.length <= 500000) (u : Value) (m : MvZ) (hu : BysAt W u m.cells) (hm : PlOk m.dst) (hml : m.cells.length <= 12) (hmt : m.text.size <= 8)
    (G : TxG) (hG : begB (C.drop k) m.cells = true -> SymssAt w0 (g (k + m.cells.length, m.dst)) (G (k + m.cells.length) m.dst) /\ (G (k + m.cells.length) m.dst).length <= 100 /\ ∀ x ∈ G (k + m.cells.length) m.dst, x.length <= 100000) :
    Calls Tryz.prog 105 #[u, .string m.text, .bool m.cap, .agg #[.int .i64 0, .int .i64 m.dst.st.lang, .bool m.dst.st.num, .bool m.dst.st.word, .int .i64 (m.dst.need : Nat), .bool m.dst.sw], .pointer (some ⟨Rb, 0, none⟩), .pointer (some ⟨A, 0, none⟩), .pointer (some ⟨Kb, 0, none⟩), .pointer (some ⟨LB, 0, none⟩), .pointer (some ⟨Pb, 0, none⟩)] W
      fun e W' => e = .returned (.tuple #[]) /\ ∃ v' us', TxC w0 LB v' us' (L ++ rawM C k p G m) W' /\ Turned (TxB LB v us) W W' /\ ∀ b, b < W.heap.size -> TxB LB v' us' b -> TxB LB v us b := by
  obtain ⟨ua, uc, rfl, huc, hum⟩ := hu.1.form
  obtain ⟨ca, cc, rfl, hcc, hcm⟩ := hC.1.form
  unfold maxLen at hum hcm
  have HL := hidep (And.intro hL hLn)
  have HU := hidep hu
  have HR := hidep (And.intro hR (And.intro hRb (And.intro hA (And.intro hKb hPb))))
  have HMM := hidep hMm
  have HC := hidep hC
  have HM := hidep hm
  obtain ⟨n, hn⟩ : ∃ n, n = C.length := ⟨_, rfl⟩
  have HN := hidep hn
  obtain ⟨c, hc⟩ : ∃ c, c = m.cells.length := ⟨_, rfl⟩
  have HCN := hidep hc
  rw [<- hn] at hCl hk hcc
  rw [<- hc] at huc hml hG ⊢
  have HG := hidep hG
  have hwc : IntKind.i64.wrap ((k : Int) + (c : Int)) = (k : Int) + (c : Int) := IntWalk.i64_in _ (by omega)
  have HRM := hidep (show rawM C k p G m = if begB (C.drop k) m.cells = true then (G (k + c) m.dst).map (zq1b p.st.lang m.text m.cap ++ ·) else [] from by rw [hc]; rfl)
  obtain ⟨RES, hRES⟩ : ∃ R, R = rawM C k p G m := ⟨_, rfl⟩
  rw [<- hRES] at HRM ⊢
  clear hL hLn hu hR hRb hA hKb hMm hPb hC hm hn hc hG hRES
  obtain ⟨mc, mt, mcap, md⟩ := m
  simp only at HU HM HCN HG HRM hmt ⊢
  go_enter Tryz.func105, Tryz.ntmps105
  go_upto_region 1 with (fail)
  obtain ⟨P, hP⟩ : ∃ B, B = W.heap.size := ⟨_, rfl⟩
  refine zq9 (fun X => Below W.heap.size W X /\ X.heap[P]? = some (PlBox 0 md)) ⟨(Below.refl _ _).alloc (Nat.le_refl _) _, by rw [hP]; exact heap_alloc_new _ _⟩ ?_
  rintro X1 ⟨hb1, hp1⟩
  rw [<- hP]
  have HB1 := hidep (And.intro hb1 hp1)
  have HPW := hidep hP
  clear hb1 hp1 hP
  obtain ⟨bb, hbb⟩ : ∃ x, x = begB (C.drop k) mc := ⟨_, rfl⟩
  have HBB := hidep hbb
  have HSEE := hidep (fun (Z : World) (hZ : Below X1.heap.size X1 Z) => by
    have h0 := (HL.out.1.below (HB1.out.1.trans (hZ.mono HB1.out.1.size))).low
    have h7 := (rd8 (zq0 h0 HR.out.1)).2.2.2.2.2.2.2
    exact And.intro (zq5 (zq0 h0 HR.out.2.1)) (And.intro (zq5 (zq0 h0 HR.out.2.2.1)) h7))
  have hdr := HC.out.drop (m := k) (by rw [<- HN.out]; exact hk)
  rw [<- HN.out] at hdr
  have HBG := hidep (fun (Z : World) (hZ : Below X1.heap.size X1 Z) vv (hvv : Value.slice (if cc = k then ca else ca.map (·.add k)) (n - k) (cc - k) = vv) => hvv ▸ zq9e _ _ (C.drop k) mc Z (hdr.below ((HL.out.1.below (HB1.out.1.trans (hZ.mono HB1.out.1.size))).low)) (HU.out.below (HB1.out.1.trans (hZ.mono HB1.out.1.size))))
  rw [<- HCN.out, <- hbb] at HBG
  rw [<- HN.out] at HSEE
  have hk1 : (k : Int) <= (n : Int) := by omega
  have hk2 : (k : Int) <= (cc : Int) := by omega
  have hk3 : (n : Int) <= (cc : Int) := by omega
  clear hdr hbb
  refine zq17 (TcM w0 X1 LB v us L P (PlBox 0 md) (.slice ua c uc) (.string mt) (.bool mcap) (.pointer (some ⟨Rb, 0, none⟩)) (.pointer (some ⟨A, 0, none⟩)) (.pointer (some ⟨Kb, 0, none⟩)) (.pointer (some ⟨LB, 0, none⟩)) (.pointer (some ⟨Pb, 0, none⟩)) (!bb)) ?r1 ?_
  case r1 =>
    intro K' hMK
    by_cases hvk : cc = k
    case pos =>
      have HVK := hidep hvk
      refine wp_region_noPanic (wp_region_held_drew (S := (fun Z => Below X1.heap.size X1 Z)) (by kernel_rfl) ?hSz0 (fun hHeld => ?hRz0))
      case hSz0 => ((try dsimp only); (exact (Below.refl _ _).drew))
      refine tkB 0 rfl (.inl ⟨by kernel_rfl, fun w hSw => by (obtain ⟨hRb, hA, h7⟩ := HSEE.out _ hSw); go_simp; first | done | with_reducible rfl⟩) ?_
      refine tkC 1 rfl ?_
      refine tkC 2 rfl ?_
      refine tkB 3 rfl (.inl ⟨by kernel_rfl, fun w hSw => by (obtain ⟨hRb, hA, h7⟩ := HSEE.out _ hSw); go_simp; first | done | with_reducible rfl⟩) ?_
      refine tkB 4 rfl (.inl ⟨by kernel_rfl, fun w hSw => by (obtain ⟨hRb, hA, h7⟩ := HSEE.out _ hSw); go_simp; first | done | with_reducible rfl⟩) ?_
      refine tkC 5 rfl ?_
      refine tkC 6 rfl ?_
      refine wpAnyH_ready (rs := [7]) (by kernel_rfl) (by simp) (AllReadyH.cons rfl (fun K hK => ?hcz1) AllReadyH.nil)
      go_simp
      (go_at_call 53; refine (HBG.out _ hHeld _ (by simp [HVK.out])).mono ?_; rintro e' w9 ⟨rfl, hb9⟩; have hk9 := hHeld.trans (hb9.mono hHeld.size); (try dsimp only))
      refine hK.out _ _ (by (try dsimp only); (exact hk9)) ?_
      clear hHeld hK; intro hHeld
      refine tkC 8 rfl ?_
      refine wpAnyH_done (by kernel_rfl) ?_ _
      clear hHeld
      refine NoPanic.normal ?_
      dsimp only [Exit.then]
      (refine hMK _ _ ⟨?_, ?_, ?_, ?_, ?_, ?_, ?_, ?_, ?_, ?_, ?_, ?_, HL.out.1.below (HB1.out.1.trans (hk9.mono HB1.out.1.size)), zq0 hk9 HB1.out.2, hk9⟩ <;> kernel_rfl)
    case neg =>
      have HVK := hidep hvk
      refine wp_region_noPanic (wp_region_held_drew (S := (fun Z => Below X1.heap.size X1 Z)) (by kernel_rfl) ?hSz2 (fun hHeld => ?hRz2))
      case hSz2 => ((try dsimp only); (exact (Below.refl _ _).drew))
      refine tkB 0 rfl (.inl ⟨by kernel_rfl, fun w hSw => by (obtain ⟨hRb, hA, h7⟩ := HSEE.out _ hSw); go_simp; first | done | with_reducible rfl⟩) ?_
      refine tkC 1 rfl ?_
      refine tkC 2 rfl ?_
      refine tkB 3 rfl (.inl ⟨by kernel_rfl, fun w hSw => by (obtain ⟨hRb, hA, h7⟩ := HSEE.out _ hSw); go_simp; first | done | with_reducible rfl⟩) ?_
      refine tkB 4 rfl (.inl ⟨by kernel_rfl, fun w hSw => by (obtain ⟨hRb, hA, h7⟩ := HSEE.out _ hSw); go_simp; first | done | with_reducible rfl⟩) ?_
      refine tkC 5 rfl ?_
      refine tkC 6 rfl ?_
      refine wpAnyH_ready (rs := [7]) (by kernel_rfl) (by simp) (AllReadyH.cons rfl (fun K hK => ?hcz3) AllReadyH.nil)
      go_simp
      (go_at_call 53; refine (HBG.out _ hHeld _ (by simp [HVK.out])).mono ?_; rintro e' w9 ⟨rfl, hb9⟩; have hk9 := hHeld.trans (hb9.mono hHeld.size); (try dsimp only))
      refine hK.out _ _ (by (try dsimp only); (exact hk9)) ?_
      clear hHeld hK; intro hHeld
      refine tkC 8 rfl ?_
      refine wpAnyH_done (by kernel_rfl) ?_ _
      clear hHeld
      refine NoPanic.normal ?_
      dsimp only [Exit.then]
      (refine hMK _ _ ⟨?_, ?_, ?_, ?_, ?_, ?_, ?_, ?_, ?_, ?_, ?_, ?_, HL.out.1.below (HB1.out.1.trans (hk9.mono HB1.out.1.size)), zq0 hk9 HB1.out.2, hk9⟩ <;> kernel_rfl)
  rintro ⟨tm1, ds⟩ X2 ⟨hts, hds, e0, e1, e2, e4, e5, e6, e7, e8, e12, e23, hL2, hp2, hb2⟩
  simp only at hts hds e0 e1 e2 e4 e5 e6 e7 e8 e12 e23
  subst hds
  apply_assumption
  rw [frame50 tm1 [] hts, e0, e1, e2, e4, e5, e6, e7, e8, e12, e23]
  clear hts e0 e1 e2 e4 e5 e6 e7 e8 e12 e23
  have hTW := Turned.of_below (T := TxB LB v us) (HB1.out.1.trans (hb2.mono HB1.out.1.size))
  have HTW := hidep hTW
  have HL2 := hidep hL2
  have HB2 := hidep (And.intro hp2 (HB1.out.1.trans (hb2.mono HB1.out.1.size)))
  clear hL2 hp2 hb2 hTW HSEE HBG hk1 hk2 hk3
  cases bb with
  | false =>
    have HE := hidep (show RES = [] from by rw [HRM.out, if_neg (by rw [<- HBB.out]; simp)])
    go_wp2
    (try simp only [Exit.inBlock, Exit.then])
    refine bodyPost_ret (results_none rfl _ _ _) rfl ?_
    exact ⟨rfl, v, us, by rw [HE.out, List.append_nil]; exact HL2.out, HTW.out, fun b _ h => h⟩
  | true =>
    have hbt := HBB.out.symm
    have HE := hidep (show RES = (G (k + c) md).map (zq1b p.st.lang mt mcap ++ ·) from by rw [HRM.out, if_pos hbt])
    obtain ⟨hG1, hG2, hG3⟩ := HG.out hbt
    obtain ⟨KS, hKS⟩ : ∃ K, K = G (k + c) md := ⟨_, rfl⟩
    rw [<- hKS] at HE hG1 hG2 hG3
    obtain ⟨ka, kc, hkv, hkc, hkm⟩ := hG1.form
    rw [hkv] at hG1
    unfold maxLen at hkm
    have hkcn : k + c <= n := by
      have := zq4b (by rw [<- HN.out]; exact hk) hbt
      rw [<- HN.out, <- HCN.out] at this
      exact this
    have HKV := hidep (And.intro hkv (And.intro hG1 hG3))
    have hA : X2.cell? ⟨A, 0, none⟩ = some (.int .i64 (k : Nat)) := zq5 (zq0 HL2.out.low HR.out.2.2.1)
    have hfz : X2.frozen? ⟨P, 0, none⟩ = false := zq31 HB2.out.1 0
    have hc0 : X2.cell? ⟨P, 0, none⟩ = some (.int .i64 0) := (pl6 HB2.out.1).1
    clear hbt hG1 hG3 hkv hKS
    go_upto_region 3 with (fail)
    refine zq9 (fun X => Turned (fun b => b = P) X2 X /\ X.heap[P]? = some (PlBox ((k : Int) + (c : Int)) md)) ⟨(Turned.refl _ _).setCell _ _ (.inr rfl), zq12 HB2.out.1 0 _⟩ ?_
    rintro X3 ⟨hT3, hp3⟩
    have hPlo : ∀ b, b = P -> ¬ TxB LB v us b /\ w0.heap.size <= b := fun b hb => by
      subst hb
      refine ⟨fun e => ?_, ?_⟩
      · have := (HL.out.1.lt _ e).2
        have := HPW.out
        omega
      · have := HPW.out
        have := HL.out.1.low.size
        omega
    have hL3 := HL2.out.turned hT3 hPlo
    have hTW3 : Turned (TxB LB v us) W X3 := ⟨hT3.os.trans HTW.out.os, hT3.tape.trans HTW.out.tape, hT3.output.trans HTW.out.output, Nat.le_trans HTW.out.size hT3.size, fun b hb e => by
      rw [hT3.block b (Nat.lt_of_lt_of_le hb HTW.out.size) (fun e2 => by have := HPW.out; omega)]
      exact HTW.out.block b hb e⟩
    have HL3 := hidep (And.intro hL3 hTW3)
    have hKb : X3.cell? ⟨Kb, 0, none⟩ = some (.map (some Mm)) := zq5 (zq0 hL3.low HR.out.2.2.2.1)
    obtain ⟨p0, p1, p2, p3, p4, p5⟩ := pl6 hp3
    have hlk : (Instr.lookup 155 (.map (some Mm)) (.agg #[.int .i64 ((k : Int) + (c : Int)), .int .i64 md.st.lang, .bool md.st.num, .bool md.st.word, .int .i64 (md.need : Nat), .bool md.sw]) false).run Tryz.prog X3 = .ok (.slice ka KS.length kc) X3 := by
      have h3 := (HMM.out.below hL3.low).lookup zqc4 (x := (k + c, md)) ⟨by show k + c <= 1000000; omega, HM.out.2, HM.out.1⟩
      unfold zq4f zq2e at h3
      simp only [Int.natCast_add] at h3
      rw [h3, HKV.out.1]
    clear hA hfz hc0 hT3 hp3 hL3 hTW3 hPlo hwc
    obtain ⟨pre, hpre⟩ : ∃ x, x = zq1b p.st.lang mt mcap := ⟨_, rfl⟩
    rw [<- hpre] at HE
    have HPRE := hidep hpre
    have hpl : pre.length <= 8 := by rw [hpre, zq49]; exact hmt
    clear hpre
    go_upto_region 4 with (fail)
    clear hKb p0 p1 p2 p3 p4 p5 hlk
    refine wp_loop (LoopI 50 (fun tm ds wr => (slot tm 1) = .string mt /\ (slot tm 2) = .bool mcap /\ (slot tm 7) = .pointer (some ⟨LB, 0, none⟩) /\ (slot tm 8) = .pointer (some ⟨Pb, 0, none⟩) /\ (slot tm 31) = .slice ka KS.length kc /\ (slot tm 32) = .int .i64 (KS.length : Nat) /\ ds = [] /\ VTc w0 W LB v us L KS pre (slot tm 33) wr)) (fun a' wr => KS.length - natI (a'.tmps.getD 33 undef)) ?lpStart ?lpRound
    case' lpStart => refine LoopI.mk rfl ?_
    case' lpRound => (rintro ⟨t, ds⟩ wr ⟨hts, hrel⟩; dsimp only at hts hrel; rw [frame50 t ds hts])
    case lpStart => exact ⟨rfl, rfl, rfl, rfl, rfl, rfl, rfl, 0, v, us, Nat.zero_le _, rfl, by rw [List.take_zero, List.map_nil, List.append_nil]; exact HL3.out.1, HL3.out.2, fun b _ h => h⟩
    obtain ⟨e1, e2, e7, e8, e31, e32, hds, j, v', us', hj, e33, hLj, hTj, hBj⟩ := hrel
    subst hds
    rw [e1, e2, e7, e8, e31, e32, e33]
    clear e1 e2 e7 e8 e31 e32 e33 hts
    have HLJ := hidep (And.intro hLj (And.intro hTj hBj))
    clear hLj hTj hBj
    by_cases hjl : j < KS.length
    · have hji : (j : Int) < (KS.length : Int) := by omega
      have hj0 : (0 : Int) <= (j : Int) := by omega
      have hwj : IntKind.i64.wrap ((j : Int) + 1) = (j : Int) + 1 := IntWalk.i64_in _ (by omega)
      obtain ⟨kb, ko, y, rfl, hkb, hy, hys⟩ := HKV.out.2.1.at hjl
      obtain ⟨x, hx⟩ : ∃ x, x = KS[j] := ⟨_, rfl⟩
      rw [<- hx] at hys
      obtain ⟨ya, yc, rfl, hyc, hym⟩ := hys.form
      have hxl : x.length <= 100000 := by rw [hx]; exact HKV.out.2.2 _ (List.getElem_mem hjl)
      unfold maxLen at hym
      have HTK := hidep (show (KS.take (j + 1)).map (pre ++ ·) = (KS.take j).map (pre ++ ·) ++ [pre ++ x] by rw [List.take_succ_eq_append_getElem hjl, List.map_append, <- hx]; rfl)
      have hyw : wr.cell? ⟨kb, ko + j, none⟩ = some (.slice ya x.length yc) := (HLJ.out.1.low.cell (p := ⟨kb, ko + j, none⟩) hkb).trans hy
      have HYS := hidep hys
      obtain ⟨va, vc, rfl, hvc, hvm⟩ := (Rd.of_own HLJ.out.1.row).form
      have HCN2 := hidep (show us'.length <= 500000 + j from by
        have h1 := HLJ.out.1.len
        rw [List.length_append, List.length_map, List.length_take] at h1
        have := HL.out.2
        omega)
      obtain ⟨un, hun⟩ : ∃ x, x = us'.length := ⟨_, rfl⟩
      rw [<- hun] at HCN2 hvc HLJ
      have HUN := hidep hun
      unfold maxLen at hvm
      clear hx hkb hy hys hun
      go_upto_region 6 with (fail)
      have hPb0 := HR.out.2.2.2.2
      have hs0 : wr.heap[LB]? = some (.cells #[.slice va un vc] 42) /\ wr.heap[Pb]? = some (PlBox (k : Nat) p) := ⟨HLJ.out.1.box, zq0 HLJ.out.1.low hPb0⟩
      have HS0 := hidep hs0
      have HSEE := hidep (fun (Z : World) (hZ : Z.heap[LB]? = some (.cells #[.slice va un vc] 42) /\ Z.heap[Pb]? = some (PlBox (k : Nat) p)) => And.intro (zq5 hZ.1) (pl6 hZ.2).2.1)
      have HPC := hidep (fun (Z : World) => piece_any p.st.lang mt mcap Z (by omega))
      rw [<- HPRE.out] at HPC
      have hun6 : us'.length <= 600000 := by have := HCN2.out; rw [<- HUN.out]; omega
      have hne1 : ∀ x, (Value.slice va un vc).ownBlock = some x -> w0.heap.size <= x := fun x e => (HLJ.out.1.row.lt x e).1
      have HNE := hidep (show (Value.slice va un vc).ownBlock ≠ some Pb /\ (Value.slice va un vc).ownBlock ≠ some LB from ⟨fun e => by have := hne1 _ e; have := lt_of_block hPb0; omega, fun e => by
        obtain ⟨cur2, h2⟩ := zq1d HLJ.out.1.row e
        rw [HLJ.out.1.box] at h2
        injection h2 with h2
        injection h2 with _ h3 _
        exact absurd h3 (by decide)⟩)
      clear hyw hPb0 hs0 hne1
      refine wp_region_noPanic (zq3c (S := (fun Z => Z.heap[LB]? = some (.cells #[.slice va un vc] 42) /\ Z.heap[Pb]? = some (PlBox (k : Nat) p))) [12] (by kernel_rfl) ?hSz4 (fun hHeld => ?hRz4))
      case hSz4 => ((try dsimp only); (exact HS0.out))
      refine tkD 0 rfl (.inl ⟨by kernel_rfl, fun w hSw => by (obtain ⟨hlb, hpl1⟩ := HSEE.out _ hSw); go_simp; first | done | with_reducible rfl⟩) ?_
      refine tkD 1 rfl (.inl ⟨by kernel_rfl, fun w hSw => by (obtain ⟨hlb, hpl1⟩ := HSEE.out _ hSw); go_simp; first | done | with_reducible rfl⟩) ?_
      refine tkD 2 rfl (.inl ⟨by kernel_rfl, fun w hSw => by (obtain ⟨hlb, hpl1⟩ := HSEE.out _ hSw); go_simp; first | done | with_reducible rfl⟩) ?_
      refine tkD 3 rfl (.inl ⟨by kernel_rfl, fun w hSw => by (obtain ⟨hlb, hpl1⟩ := HSEE.out _ hSw); go_simp; first | done | with_reducible rfl⟩) ?_
      refine tkD 4 rfl (.inl ⟨by kernel_rfl, fun w hSw => by (obtain ⟨hlb, hpl1⟩ := HSEE.out _ hSw); go_simp; first | done | with_reducible rfl⟩) ?_
      refine tkD 5 rfl (.inl ⟨by kernel_rfl, fun w hSw => by (obtain ⟨hlb, hpl1⟩ := HSEE.out _ hSw); go_simp; first | done | with_reducible rfl⟩) ?_
      refine tkD 7 rfl (.inl ⟨by kernel_rfl, fun w hSw => by (obtain ⟨hlb, hpl1⟩ := HSEE.out _ hSw); go_simp; first | done | with_reducible rfl⟩) ?_
      refine zq16 (rs := [6]) (by kernel_rfl) (by simp) (AllReadyD.cons rfl (by kernel_rfl) (fun K hK => ?hcz5) AllReadyD.nil)
      go_simp
      (go_at_call 106; refine (HPC.out _).mono ?_; rintro e' w9 ⟨v9, rfl, ho9, hb9⟩; have hk9 : Below wr.heap.size wr w9 := (by first | exact hb9 | exact ((Below.refl _ _).drew).trans hb9); have hs := And.intro (zq0 hk9 HS0.out.1) (zq0 hk9 HS0.out.2); obtain ⟨a9, c9, hv9, _, _⟩ := (Rd.of_own ho9).form; subst hv9; (try dsimp only))
      refine hK.out _ _ (by (try dsimp only); (exact hs)) ?_
      clear hHeld hK; intro hHeld
      refine zq16 (rs := [8]) (by kernel_rfl) (by simp) (AllReadyD.cons rfl (by kernel_rfl) (fun K hK => ?hcz6) AllReadyD.nil)
      go_simp
      ((first | refine zq7 (fun X6 hBX hL6 => ?_) | refine zq3 (fun X6 hBX hL6 => ?_)); have hb6 : Below wr.heap.size wr X6 := hk9.trans (hBX.mono hk9.size); have hk9 := hb6; have hs := And.intro (zq0 hk9 HS0.out.1) (zq0 hk9 HS0.out.2); have hlit := symss_two hL6 ((SymsAt.of_own ho9).below hBX) (HYS.out.below (HLJ.out.1.low.trans (hb6.mono HLJ.out.1.low.size))); (try dsimp only))
      refine hK.out _ _ (by (try dsimp only); (exact hs)) ?_
      clear hHeld hK; intro hHeld
      refine zq16 (rs := [9]) (by kernel_rfl) (by simp) (AllReadyD.cons rfl (by kernel_rfl) (fun K hK => ?hcz7) AllReadyD.nil)
      go_simp
      (go_at_call 77; refine (concat_any _ _ _ hlit (by unfold total; simp; omega)).mono ?_; rintro e' w8 ⟨v8, rfl, ho8, hb8⟩; have hsz6 := hk9.size; have hk9 := hk9.trans (hb8.mono hk9.size); have hs := And.intro (zq0 hk9 HS0.out.1) (zq0 hk9 HS0.out.2); obtain ⟨a8, c8, hv8, _, _⟩ := (Rd.of_own ho8).form; subst hv8; (try dsimp only))
      refine hK.out _ _ (by (try dsimp only); (exact hs)) ?_
      clear hHeld hK; intro hHeld
      refine zq16 (rs := [10]) (by kernel_rfl) (by simp) (AllReadyD.cons rfl (by kernel_rfl) (fun K hK => ?hcz8) AllReadyD.nil)
      go_simp
      ((first | refine zq7 (fun X7 hBX hL7 => ?_) | refine zq3 (fun X7 hBX hL7 => ?_)); have hk7 := hk9.trans (hBX.mono hk9.size); have hk9 := hk7; have hs := And.intro (zq0 hk9 HS0.out.1) (zq0 hk9 HS0.out.2); have ho8 := zq2 ho8 hBX; (try dsimp only))
      refine hK.out _ _ (by (try dsimp only); (exact hs)) ?_
      clear hHeld hK; intro hHeld
      refine zq16 (rs := [11]) (by kernel_rfl) (by simp) (AllReadyD.cons rfl (by kernel_rfl) (fun K hK => ?hcz9) AllReadyD.nil)
      (refine zq11 _ rfl (.tmp 37) (.tmp 47) rfl slSymss w0.heap.size _ _ _ rfl (HLJ.out.1.below hk9).row _ _ _ _ rfl (zq28 hL7) (by intro u hu; simp at hu; rcases hu with rfl; rfl) (by unfold maxLen; omega) (by omega) (Nat.le_trans HLJ.out.1.low.size hk9.size) ?_; intro v7 w7 ho7 hg7 hown7 hnl7; clear hnl7; have hs6 := hs; have hs := And.intro ((hg7.block _ (lt_of_block hs6.1) (fun e => HNE.out.2 e.symm)).trans hs6.1) ((hg7.block _ (lt_of_block hs6.2) (fun e => HNE.out.1 e.symm)).trans hs6.2); have hfz : w7.frozen? ⟨LB, 0, none⟩ = false := zq1 hs.1 0; have hc7 := zq5 hs.1; obtain ⟨a7, c7, hv7, _, _⟩ := (Rd.of_own ho7).form; subst hv7; (try dsimp only))
      refine hK.out _ _ (by (try dsimp only); (exact hs)) ?_
      clear hHeld hK; intro hHeld
      refine zq16 (rs := [12]) (by kernel_rfl) (by simp) (AllReadyD.last rfl (by kernel_rfl) (fun K hK => ?hcz10) AllReadyD.nil)
      go_simp
      (skip)
      refine hK.out _ _ ?_
      clear hHeld hK
      have hHeld := True.intro
      refine wpAnyH_done (by kernel_rfl) ?_ _
      clear hHeld
      refine NoPanic.normal ?_
      all_goals
        have hfl : [pre, x].flatten = pre ++ x := by simp
        rw [hfl] at ho8
        have ho7' : w7.ownsRow w0.heap.size 31 1 (.slice a7 (us'.length + 1) c7) (us'.length + 1) (us' ++ [.slice a8 (pre ++ x).length c8]) := by
          rw [show (pre ++ x).length = pre.length + x.length from List.length_append]
          exact ho7
        have hadd := HLJ.out.1.push hk9 (zqca ho8 hsz6) ho7' (by exact hg7) (by exact hown7)
        rw [List.append_assoc, <- HTK.out] at hadd
        have hX7 : (Value.slice a8 (pre ++ x).length c8) = (Value.slice a8 (pre.length + x.length) c8) := by rw [List.length_append]
        have HADD := hidep hadd
        clear hadd ho7' ho7 hg7 hown7 hs hs6 hfz hc7 hlit hfl ho8 ho9 hX7
        go_wp2
        refine ⟨LoopI.mk rfl ⟨rfl, rfl, rfl, rfl, rfl, rfl, rfl, j + 1, _, _, by omega, by show Value.int _ _ = _; go_num, HADD.out.1, ?_, fun b hb hB => ?_⟩, ?_⟩
        · exact HLJ.out.2.1.thenV HADD.out.2.1 (fun x hx hU => HLJ.out.2.2 x hx hU)
        · exact HLJ.out.2.2 b hb (HADD.out.2.2 b (Nat.lt_of_lt_of_le hb HLJ.out.2.1.size) hB)
        · show KS.length - _ < KS.length - _
          simp [natI]; omega
    · have hji : ¬ (j : Int) < (KS.length : Int) := by omega
      have hje : j = KS.length := by omega
      have HF := hidep (show L ++ (KS.take j).map (pre ++ ·) = L ++ RES from by rw [hje, List.take_length, HE.out])
      clear hje
      go_wp2
      refine bodyPost_end (results_none rfl _ _ _) (by kernel_rfl) ?_
      exact ⟨rfl, v', us', by rw [<- HF.out]; exact HLJ.out.1, HLJ.out.2.1, HLJ.out.2.2⟩
end Go.Proofs.YtcfjepcflanjbaaGreat
