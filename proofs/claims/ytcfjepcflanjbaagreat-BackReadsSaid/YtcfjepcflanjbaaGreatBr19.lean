/- Contract: the code's Steps (table.Steps) for valid tables and characters: the plain steps. -/
import Derived.Test.YtcfjepcflanjbaaGreatBr02
import Derived.Test.YtcfjepcflanjbaaGreatBr16
import Derived.Test.YtcfjepcflanjbaaGreatBr18
import Derived.Test.YtcfjepcflanjbaaGreatBr13
namespace Go.Proofs.YtcfjepcflanjbaaGreat
open Go.RowKit Go.Lab Go.Shelf
set_option maxRecDepth 100000
theorem zqaa (t : Array Value) (ds : List Deferred) (h : t.size = 143) : ({ tmps := t, defers := ds } : Act) = { tmps := #[slot t 0, slot t 1, slot t 2, slot t 3, slot t 4, slot t 5, slot t 6, slot t 7, slot t 8, slot t 9, slot t 10, slot t 11, slot t 12, slot t 13, slot t 14, slot t 15, slot t 16, slot t 17, slot t 18, slot t 19, slot t 20, slot t 21, slot t 22, slot t 23, slot t 24, slot t 25, slot t 26, slot t 27, slot t 28, slot t 29, slot t 30, slot t 31, slot t 32, slot t 33, slot t 34, slot t 35, slot t 36, slot t 37, slot t 38, slot t 39, slot t 40, slot t 41, slot t 42, slot t 43, slot t 44, slot t 45, slot t 46, slot t 47, slot t 48, slot t 49, slot t 50, slot t 51, slot t 52, slot t 53, slot t 54, slot t 55, slot t 56, slot t 57, slot t 58, slot t 59, slot t 60, slot t 61, slot t 62, slot t 63, slot t 64, slot t 65, slot t 66, slot t 67, slot t 68, slot t 69, slot t 70, slot t 71, slot t 72, slot t 73, slot t 74, slot t 75, slot t 76, slot t 77, slot t 78, slot t 79, slot t 80, slot t 81, slot t 82, slot t 83, slot t 84, slot t 85, slot t 86, slot t 87, slot t 88, slot t 89, slot t 90, slot t 91, slot t 92, slot t 93, slot t 94, slot t 95, slot t 96, slot t 97, slot t 98, slot t 99, slot t 100, slot t 101, slot t 102, slot t 103, slot t 104, slot t 105, slot t 106, slot t 107, slot t 108, slot t 109, slot t 110, slot t 111, slot t 112, slot t 113, slot t 114, slot t 115, slot t 116, slot t 117, slot t 118, slot t 119, slot t 120, slot t 121, slot t 122, slot t 123, slot t 124, slot t 125, slot t 126, slot t 127, slot t 128, slot t 129, slot t 130, slot t 131, slot t 132, slot t 133, slot t 134, slot t 135, slot t 136, slot t 137, slot t 138, slot t 139, slot t 140, slot t 141, slot t 142], defers := ds } :=
  (congrArg (fun x => ({ tmps := x, defers := ds } : Act)) (zq1e h)).trans (by kernel_rfl)
theorem slStpT : SlT Tryz.prog 98 101 (.agg #[.int .i64 0, .bool false, .bool false, .int .i64 0, .slice none 0 0, .int .i64 0]) 6 56 := ⟨by kernel_rfl, by kernel_rfl, rfl, by decide⟩
theorem zq55 {X : World} {g : Nat} {u1 u2 : Value} {l1 l2 : List Int} {e : TypeId} (h : X.heap[g]? = some (.cells #[u1, u2] e)) (h1 : BysAt X u1 l1) (h2 : BysAt X u2 l2) : BysssAt X (.slice (some ⟨g, 0, none⟩) 2 2) [l1, l2] :=
  ⟨[u1, u2], rfl, (zq8a (k := 1) h rfl (by decide)).mono (fun _ _ => trivial), fun i hi h' => by
    match i, hi with
    | 0, _ => exact h1
    | 1, _ => exact h2⟩
theorem bysss3 {X : World} {g : Nat} {u1 u2 u3 : Value} {l1 l2 l3 : List Int} {e : TypeId} (h : X.heap[g]? = some (.cells #[u1, u2, u3] e)) (h1 : BysAt X u1 l1) (h2 : BysAt X u2 l2) (h3 : BysAt X u3 l3) : BysssAt X (.slice (some ⟨g, 0, none⟩) 3 3) [l1, l2, l3] :=
  ⟨[u1, u2, u3], rfl, (zq8a (k := 1) h rfl (by decide)).mono (fun _ _ => trivial), fun i hi h' => by
    match i, hi with
    | 0, _ => exact h1
    | 1, _ => exact h2
    | 2, _ => exact h3⟩
theorem StepsOwn.lit {ty : TypeId} {base g : Nat} {X : World} (s : StpZ) (u : Value) (h : X.heap[g]? = some (.cells (stepC s u).toArray ty)) (hb : base <= g) (hu : BysAt X u s.cells) :
    StepsOwn ty base X (.slice (some ⟨g, 0, none⟩) 1 1) [s] := by
  refine ⟨[u], rfl, ?_, ?_⟩
  · have h := zqd4 (k := 6) (n := 1) h hb rfl (by decide)
    simpa [zq42] using h
  · intro i h h'
    have hi : i = 0 := by simpa using h
    subst hi
    exact hu
def NtX (w0 : World) (V : TabV) (st : StZ) (xl xc : Int) (Bt Bc : Nat) (X : World) : Prop :=
  TbX w0 V Bt X /\ X.heap[Bt + 1]? = some (.cells #[.int .i64 st.lang, .bool st.num, .bool st.word] 95) /\ X.heap[Bc]? = some (.cells #[.int .i64 xl, .int .u8 xc] 39)
theorem NtX.below {w0 X X' : World} {V : TabV} {st : StZ} {xl xc : Int} {Bt Bc : Nat} (h : NtX w0 V st xl xc Bt Bc X) (hb : Below X.heap.size X X') : NtX w0 V st xl xc Bt Bc X' :=
  ⟨h.1.below hb, zq0 hb h.2.1, zq0 hb h.2.2⟩
def VNt (X : World) (lang : Int) (wd : Bool) (lead : List Int) (l : List Sym) (i : Nat) (L : List RuleZ) (tv kv : Value) (wr : World) : Prop :=
  ∃ k : Nat, k <= L.length /\ kv = .int .i64 (k : Nat) /\ StepsT 101 X.heap.size wr tv (zq20 lang wd lead l i (L.take k) 0) /\ Below X.heap.size X wr
def NtM (w1 : World) (v2 v3 v4 v5 v9 v12 v13 : Value) (cs : List Int) : Act -> World -> Prop := fun a W => ∃ (cv : Value), a.tmps.size = 143 /\ a.defers = [] /\ slot a.tmps 2 = v2 /\ slot a.tmps 3 = v3 /\ slot a.tmps 4 = v4 /\ slot a.tmps 5 = v5 /\ slot a.tmps 9 = v9 /\ slot a.tmps 12 = v12 /\ slot a.tmps 13 = v13 /\ slot a.tmps 14 = cv /\ W.ownsRow w1.heap.size 5 1 cv cs.length (byC cs) /\ Below w1.heap.size w1 W
def NtD (w1 : World) (v4 v9 : Value) (cs : List Int) : Act -> World -> Prop := fun a W => ∃ (cv : Value), a.tmps.size = 143 /\ a.defers = [] /\ slot a.tmps 4 = v4 /\ slot a.tmps 9 = v9 /\ slot a.tmps 10 = cv /\ W.ownsRow w1.heap.size 5 1 cv cs.length (byC cs) /\ Below w1.heap.size w1 W
set_option maxHeartbeats 4000000 in
theorem stepsT_any (V : TabV) (T : TabZ) (st : StZ) (v : Value) (l : List Sym) (i : Nat) (w : World) (hT : TabIn w V T) (hok : TabOk T) (hv : zq8 T = 0) (h : SymsAt w v l) (hr : SymOk l) (hgood : l.all goodB = true) (hl : l.length <= 1000000) (hi : i < l.length) (hlang : ∀ x ∈ l, x.lang = 0 \/ x.lang = 1) (hst : st.lang = 0 \/ st.lang = 1) :
    Calls Tryz.prog 52 #[V.v, .agg #[.int .i64 st.lang, .bool st.num, .bool st.word], v, .int .i64 (i : Nat)] w fun e w' => (∃ v', e = .returned v' /\ StepsOwn 101 w.heap.size w' v' (nextZ T st l i)) /\ Below w.heap.size w w' := by
  have HCF := hidep (fun W (hW : Below w.heap.size w W) => containsFunc_steps1 v l W (h.below hW))
  rw [hgood, Bool.not_true] at HCF
  obtain ⟨a, cap, rfl, h2, h3⟩ := h.form
  unfold maxLen at h3
  obtain ⟨b, off, rfl, hb, hx0, hx1⟩ := h.at hi
  have hxr := hr _ (List.getElem_mem hi)
  have hxl := hlang _ (List.getElem_mem hi)
  have HSY := hidep (zq37 hi)
  obtain ⟨x, hxd⟩ : ∃ x, x = l[i] := ⟨_, rfl⟩
  rw [<- hxd] at hx0 hx1 hxr hxl HSY
  clear hxd
  obtain ⟨xl, xc⟩ := x
  simp only at hx0 hx1 hxr hxl
  obtain ⟨sl, sn, sw⟩ := st
  simp only at hst ⊢
  have HT := hidep hT
  have HOK := hidep hok
  have hvv : T.dg.length = 10 /\ T.nm.length <= 4 /\ T.en.length <= 4 /\ T.cp.length <= 4 /\ 1 <= T.sw.length /\ T.sw.length <= 4 := by
    have h1 := hv
    unfold zq8 at h1
    split at h1
    · cases h1
    · split at h1
      · cases h1
      · rename_i h2
        simp only [Bool.not_eq_false, Bool.and_eq_true] at h2
        unfold zqc at h2
        simp only [Bool.and_eq_true, decide_eq_true_eq] at h2
        omega
  have HVT := hidep (fun W (hW : Below w.heap.size w W) => zqb6 V T W (hT.below hW) hok)
  rw [hv] at HVT
  have HDL := hidep hvv
  have HV := hidep hv
  have HH := hidep h
  have HR := hidep hr
  obtain ⟨n, hn⟩ : ∃ n, n = l.length := ⟨_, rfl⟩
  have HN := hidep hn
  have HI := hidep hi
  have hin : (i : Int) < (n : Int) := by omega
  have hi0 : (0 : Int) <= (i : Int) := by omega
  rw [<- hn] at h2 HCF ⊢
  have HB := hidep (And.intro hb (And.intro hx0 hx1))
  have HXL := hidep hxl
  have HXR := hidep (And.intro hxr.1 hxr.2.1)
  have hs1 : ¬ (sl < 0) := by omega
  have hs2 : ¬ (sl > 1) := by omega
  have hi1 : ¬ ((i : Int) < 0) := by omega
  have hi2 : ¬ ((i : Int) >= (n : Int)) := by omega
  clear hT hok hv hvv h hr hn hi hlang hb hxl hxr hx0 hx1 hgood hst
  unfold TabV.v at HVT ⊢
  go_enter Tryz.func52, Tryz.ntmps52
  go_upto_region 1 with (fail)
  obtain ⟨Bt, hBt⟩ : ∃ B, B = w.heap.size := ⟨_, rfl⟩
  refine zq9 (fun X => TbX w V Bt X /\ X.heap[Bt + 1]? = some (.cells #[.int .i64 sl, .bool sn, .bool sw] 95)) ⟨⟨((Below.refl _ _).alloc (Nat.le_refl _) _).alloc (by rw [World.size_alloc]; omega) _, by rw [hBt]; exact zq0 ((Below.refl _ _).alloc (Nat.le_refl _) _) (heap_alloc_new _ _)⟩, by
    rw [hBt]
    have h := heap_alloc_new (w.alloc (.cells #[V.a, V.b, V.d, V.c, V.n, V.e, V.s] 29)) (.cells #[.int .i64 sl, .bool sn, .bool sw] 95)
    rw [World.size_alloc] at h
    exact h⟩ ?_
  rw [<- hBt]
  rintro X0 ⟨hX0, hS0⟩
  have HX0 := hidep (And.intro hX0 hS0)
  have HBT := hidep hBt
  have s0 : X0.cell? ⟨Bt + 1, 0, none⟩ = some (.int .i64 sl) := by simp [World.cell?, hS0]
  have b0 : X0.cell? ⟨Bt, 0, none⟩ = some V.a := by simp [World.cell?, hX0.2]
  have b1 : X0.cell? ⟨Bt, 1, none⟩ = some V.b := by simp [World.cell?, hX0.2]
  have b2 : X0.cell? ⟨Bt, 2, none⟩ = some V.d := by simp [World.cell?, hX0.2]
  have b3 : X0.cell? ⟨Bt, 3, none⟩ = some V.c := by simp [World.cell?, hX0.2]
  have b4 : X0.cell? ⟨Bt, 4, none⟩ = some V.n := by simp [World.cell?, hX0.2]
  have b5 : X0.cell? ⟨Bt, 5, none⟩ = some V.e := by simp [World.cell?, hX0.2]
  have b6 : X0.cell? ⟨Bt, 6, none⟩ = some V.s := by simp [World.cell?, hX0.2]
  clear hX0 hS0 hBt
  go_upto_region 3 with (first
    | (go_at_call 28; refine (HVT.out _ HX0.out.1.1).mono ?_; rintro e w1 ⟨rfl, hv1⟩; have s0' : w1.cell? ⟨Bt + 1, 0, none⟩ = some (.int .i64 sl) := (by simp [World.cell?, zq0 hv1 HX0.out.2]))
    | (go_at_call 49; refine (HCF.out _ (HX0.out.1.1.trans (hv1.mono HX0.out.1.1.size))).mono ?_; rintro e w2 ⟨rfl, hv2⟩))
  have hb02 := hv1.trans (hv2.mono hv1.size)
  have hyX : TbX w V Bt w2 := HX0.out.1.below hb02
  have hyS := zq0 hb02 HX0.out.2
  have hy0 := (hyX.1.cell (p := ⟨b, off + i * 2, none⟩) HB.out.1).trans HB.out.2.1
  have hy1 := (hyX.1.cell (p := ⟨b, off + i * 2 + 1, none⟩) HB.out.1).trans HB.out.2.2
  have HX1 := hidep (And.intro hyX hyS)
  clear hyX hyS hb02 hv1 hv2 s0 s0' b0 b1 b2 b3 b4 b5 b6 HX0 HVT HCF hs1 hs2 hi1 hi2
  go_upto_region 4 with (fail)
  obtain ⟨Bc, hBc⟩ : ∃ B, B = w2.heap.size := ⟨_, rfl⟩
  refine zq9 (fun X => NtX w V ⟨sl, sn, sw⟩ xl xc Bt Bc X) ⟨HX1.out.1.below ((Below.refl _ _).alloc (Nat.le_refl _) _), zq0 ((Below.refl _ _).alloc (Nat.le_refl _) _) HX1.out.2, by rw [hBc]; exact heap_alloc_new _ _⟩ ?_
  rw [<- hBc]
  clear hBc hy0 hy1 HX1
  rintro X hX
  have HX := hidep hX
  have c0 : X.cell? ⟨Bc, 0, none⟩ = some (.int .i64 xl) := by simp [World.cell?, hX.2.2]
  have c1 : X.cell? ⟨Bc, 1, none⟩ = some (.int .u8 xc) := by simp [World.cell?, hX.2.2]
  have s0 : X.cell? ⟨Bt + 1, 0, none⟩ = some (.int .i64 sl) := by simp [World.cell?, hX.2.1]
  have s1 : X.cell? ⟨Bt + 1, 1, none⟩ = some (.bool sn) := by simp [World.cell?, hX.2.1]
  by_cases hlg : xl = sl
  case neg =>
    have HNX := hidep (show nextZ T ⟨sl, sn, sw⟩ l i = [⟨⟨xl, false, false⟩, 0, T.sw, -1⟩] from by
      unfold nextZ; rw [HSY.out, if_pos hlg])
    obtain ⟨sa, sc, hs, _, _⟩ := HT.out.sw.1.form
    have HCL := hidep (fun W (hW : Below X.heap.size X W) => cloneBy_any (.slice sa T.sw.length sc) T.sw W (by rw [<- hs]; exact HT.out.sw.below (HX.out.1.1.trans (hW.mono HX.out.1.1.size))) (by have := HDL.out; omega) (by have := HDL.out; omega))
    have ht5 : ∀ Y, Below X.heap.size X Y -> Y.cell? ⟨Bt, 6, none⟩ = some (.slice sa T.sw.length sc) /\ Y.cell? ⟨Bc, 0, none⟩ = some (.int .i64 xl) := fun Y hY => by
      have hn := HX.out.below hY
      exact ⟨by rw [<- hs]; simp [World.cell?, hn.1.2], by simp [World.cell?, hn.2.2]⟩
    have HC5 := hidep ht5
    have HS := hidep hs
    clear hX hs ht5
    go_upto_region 5 with (fail)
    refine wp_region_noPanic (wp_region_held_drew (S := (fun Y => Below X.heap.size X Y)) (by kernel_rfl) ?hSz0 (fun hHeld => ?hRz0))
    case hSz0 => ((try dsimp only); (exact (Below.refl _ _).drew))
    refine tkC 0 rfl ?_
    refine tkB 1 rfl (.inl ⟨by kernel_rfl, fun w hSw => by (obtain ⟨d5, d0⟩ := HC5.out _ hSw); go_simp; first | done | with_reducible rfl⟩) ?_
    refine tkC 2 rfl ?_
    refine tkC 3 rfl ?_
    refine tkB 4 rfl (.inl ⟨by kernel_rfl, fun w hSw => by (obtain ⟨d5, d0⟩ := HC5.out _ hSw); go_simp; first | done | with_reducible rfl⟩) ?_
    refine wpAnyH_ready (rs := [5]) (by kernel_rfl) (by simp) (AllReadyH.cons rfl (fun K hK => ?hcz1) AllReadyH.nil)
    go_simp
    (go_at_call 88; refine (HCL.out _ hHeld).mono ?_; rintro e' w8 ⟨v8, rfl, hown8, hb8⟩; have hz8 := hHeld.size; obtain ⟨a8, c8, rfl, _, _⟩ := (Rd.of_own hown8).form; have hk := hHeld.trans (hb8.mono hHeld.size); (try dsimp only))
    refine hK.out _ _ (by (try dsimp only); (exact hk)) ?_
    clear hHeld hK; intro hHeld
    refine tkC 6 rfl ?_
    refine wpAnyH_ready (rs := [7]) (by kernel_rfl) (by simp) (AllReadyH.cons rfl (fun K hK => ?hcz2) AllReadyH.nil)
    go_simp
    ((first | refine zq7 (fun X1 hBX hL => ?_) | refine zq3 (fun X1 hBX hL => ?_)); have hk := hk.trans (hBX.mono hk.size); (try dsimp only))
    refine hK.out _ _ (by (try dsimp only); (exact hk)) ?_
    clear hHeld hK; intro hHeld
    refine tkC 8 rfl ?_
    refine wpAnyH_done (by kernel_rfl) ?_ _
    clear hHeld
    refine NoPanic.normal ?_
    go_wp2
    go_ret
    exact ⟨⟨_, rfl, by rw [HNX.out]; exact StepsOwn.lit ⟨⟨xl, false, false⟩, 0, T.sw, -1⟩ _ hL (Nat.le_trans HX.out.1.1.size (Nat.le_trans hz8 hb8.size)) (BysAt.of_own (zq2 hown8 hBX) HT.out.sw.2)⟩, HX.out.1.1.trans (hk.mono HX.out.1.1.size)⟩
  subst hlg
  have HNG := hidep (show nextZ T ⟨xl, sn, sw⟩ l i = if digB xc = true then [⟨⟨xl, true, false⟩, 1, (if sn = true then [] else T.nm) ++ [T.dg.getD (xc - 48).toNat 0], -1⟩] else zq20 xl (letB xc) (leadZ T ⟨xl, sn, sw⟩ xc) l i (T.rules xl) 0 from by
    unfold nextZ; rw [HSY.out, if_neg (by simp)])
  have HDG := hidep (fun W => digit_any xc W)
  obtain ⟨db, hdb⟩ : ∃ db, db = digB xc := ⟨_, rfl⟩
  rw [<- hdb] at HDG HNG
  cases db with
  | true =>
    have hd := hdb.symm
    unfold digB at hd
    simp only [Bool.and_eq_true, decide_eq_true_eq] at hd
    obtain ⟨k, hk⟩ : ∃ k : Nat, xc = 48 + (k : Int) := ⟨(xc - 48).toNat, by omega⟩
    have hkd : k < T.dg.length := by rw [HDL.out.1]; omega
    obtain ⟨da, dc, hda, _, _⟩ := HT.out.dg.1.form
    have hdg := HT.out.dg
    rw [hda] at hdg
    obtain ⟨bd, od, y, hyd, rfl, hbd, hcd, hd1, hd2⟩ := hdg.get hkd
    have hgy : T.dg.getD (xc - 48).toNat 0 = y := by rw [hk, show (48 + (k : Int) - 48).toNat = k from by omega, List.getD_eq_getElem?_getD, List.getElem?_eq_getElem hkd, hyd]; rfl
    obtain ⟨cs, hcs⟩ : ∃ cs, cs = (if sn = true then [] else T.nm) := ⟨_, rfl⟩
    have HN2 := hidep (HNG.out.trans (by rw [if_pos rfl, hgy, <- hcs] : _ = [⟨⟨xl, true, false⟩, 1, cs ++ [y], -1⟩]))
    have HCD := hidep (And.intro hbd (And.intro hcd (And.intro hd1 hd2)))
    have HDA := hidep hda
    have HCS := hidep hcs
    have hcl : cs.length <= 4 := by have := HDL.out; rw [hcs]; split <;> simp <;> omega
    have hwk : IntKind.u8.wrap (xc - 48) = (k : Int) := by rw [hk, show 48 + (k : Int) - 48 = (k : Int) from by omega]; exact IntWalk.u8_in _ (by omega)
    have hkl : (k : Int) < (T.dg.length : Int) := by omega
    have hk0 : (0 : Int) <= (k : Int) := by omega
    obtain ⟨na, nc, hna, _, _⟩ := HT.out.nm.1.form
    have HY := hidep (fun Y (hY : Below X.heap.size X Y) => by
      have hn := HX.out.below hY
      exact (⟨by rw [<- HDA.out]; simp [World.cell?, hn.1.2], (hn.1.1.cell (p := ⟨bd, od + k, none⟩) HCD.out.1).trans HCD.out.2.1, by simp [World.cell?, hn.2.2], by simp [World.cell?, hn.2.2], by rw [<- hna]; simp [World.cell?, hn.1.2]⟩ :
        Y.cell? ⟨Bt, 2, none⟩ = some (.slice (some ⟨bd, od, none⟩) T.dg.length dc) /\ Y.cell? ⟨bd, od + k, none⟩ = some (.int .u8 y) /\ Y.cell? ⟨Bc, 0, none⟩ = some (.int .i64 xl) /\ Y.cell? ⟨Bc, 1, none⟩ = some (.int .u8 xc) /\ Y.cell? ⟨Bt, 4, none⟩ = some (.slice na T.nm.length nc)))
    have hrn := (HT.out.nm.below HX.out.1.1).1
    rw [hna] at hrn
    have HRN := hidep hrn
    clear hX hdb hd hda hdg hbd hcd hd1 hd2 hgy HNG hk hkd hna hrn hyd hcs
    go_upto_region 7 with (go_at_call 89; refine (HDG.out _).mono ?_; rintro e w1 ⟨rfl, hw1⟩; rw [hw1]; clear hw1)
    refine wp_region_lit ?_
    refine zq5e rfl (v := .slice none 0 0) (w' := X) (by kernel_rfl) ?_
    refine wpList_nil ?_
    dsimp only [Exit.then]
    apply_assumption
    refine wp_seq ?_
    refine zq17 (NtD X (.pointer (some ⟨Bt, 0, none⟩)) (.pointer (some ⟨Bc, 0, none⟩)) cs) ?d1 ?_
    case d1 =>
      intro K' hMK
      obtain ⟨q2, qd, q0, q1, q4⟩ := HY.out _ (Below.refl _ _)
      cases sn
      · have hone := zq33 T.nm
        have hrn := HRN.out
        have hnl4 := HDL.out.2.1
        go_wp2_with (at_builtin; refine zq4 _ rfl (.tmp 68) (.tmp 70) rfl slByt X.heap.size (.slice none 0 0) _ _ rfl (World.ownsRow_nil _ _ _ _) _ _ _ _ rfl hrn hone (by unfold maxLen; omega) (by omega) (Nat.le_refl _) ?_; intro vP wP hownP hgrP hat hnl; clear hat hnl; (try simp only [Nat.zero_add, List.nil_append] at hownP); have hbP := (Below.refl X.heap.size X).grown hgrP (Nat.le_refl _) (fun g hg => by simp [Value.ownBlock] at hg))
        exact ⟨_, by kernel_rfl, by kernel_rfl, by kernel_rfl, by kernel_rfl, by kernel_rfl, by rw [HCS.out, if_neg (by simp)]; exact hownP, hbP⟩
      · go_wp2
        exact ⟨_, by kernel_rfl, by kernel_rfl, by kernel_rfl, by kernel_rfl, by kernel_rfl, by rw [HCS.out, if_pos (by simp)]; exact World.ownsRow_nil _ _ _ _, Below.refl _ _⟩
    rintro ⟨tm1, ds⟩ W1 ⟨cv, hts, hds, e4, e9, e10, hown1, hbl1⟩
    simp only at hts hds e4 e9 e10
    subst hds
    rw [zqaa tm1 [] hts, e4, e9, e10]
    clear hts e4 e9 e10
    obtain ⟨a1, k1, rfl, hc1, hd1⟩ := (Rd.of_own hown1).form
    have hs1 := hbl1.size
    have HB1 := hidep hbl1
    clear c0 c1 s0 s1
    go_upto_region 10 with (fail)
    refine wp_region_noPanic (wp_region_held_drew (S := (fun Y => Below X.heap.size X Y)) (by kernel_rfl) ?hSz3 (fun hHeld => ?hRz3))
    case hSz3 => ((try dsimp only); (exact HB1.out.drew))
    refine tkC 0 rfl ?_
    refine tkB 1 rfl (.inl ⟨by kernel_rfl, fun w hSw => by (obtain ⟨q2, qd, q0, q1, q4⟩ := HY.out _ hSw); go_simp; first | done | with_reducible rfl⟩) ?_
    refine tkC 2 rfl ?_
    refine tkC 3 rfl ?_
    refine tkC 4 rfl ?_
    refine tkB 5 rfl (.inl ⟨by kernel_rfl, fun w hSw => by (obtain ⟨q2, qd, q0, q1, q4⟩ := HY.out _ hSw); go_simp; first | done | with_reducible rfl⟩) ?_
    refine tkC 6 rfl ?_
    refine tkB 7 rfl (.inl ⟨by kernel_rfl, fun w hSw => by (obtain ⟨q2, qd, q0, q1, q4⟩ := HY.out _ hSw); go_simp; first | done | with_reducible rfl⟩) ?_
    refine tkC 8 rfl ?_
    refine tkC 9 rfl ?_
    refine tkB 10 rfl (.inl ⟨by kernel_rfl, fun w hSw => by (obtain ⟨q2, qd, q0, q1, q4⟩ := HY.out _ hSw); go_simp; first | done | with_reducible rfl⟩) ?_
    refine wpAnyH_ready (rs := [11]) (by kernel_rfl) (by simp) (AllReadyH.cons rfl (fun K hK => ?hcz4) AllReadyH.nil)
    go_simp
    ((first | refine zq7 (fun X1 hBX hL => ?_) | refine zq3 (fun X1 hBX hL => ?_)); have hb3 : Below W1.heap.size W1 X1 := (by first | exact hBX | exact ((Below.refl _ _).drew).trans hBX); have hk := HB1.out.trans (hb3.mono HB1.out.size); (try dsimp only))
    refine hK.out _ _ (by (try dsimp only); (exact hk)) ?_
    clear hHeld hK; intro hHeld
    refine wpAnyH_ready (rs := [12]) (by kernel_rfl) (by simp) (AllReadyH.cons rfl (fun K hK => ?hcz5) AllReadyH.nil)
    (refine zq11 _ rfl (.tmp 75) (.tmp 83) rfl slByt X.heap.size _ _ _ rfl (zq2 hown1 hb3) _ _ _ _ rfl (zq28 hL) (by intro u hu; simp at hu; subst hu; rfl) (by unfold maxLen; omega) (by omega) hk.size ?_; intro vQ wQ hownQ hgrQ hat hnl; clear hat hnl; have hk := hk.grown hgrQ hk.size (fun g hg => ((zq2 hown1 hb3).lt g hg).1); have hzQ := hk.size; obtain ⟨aQ, cQ, rfl, _, _⟩ := (Rd.of_own hownQ).form; (try dsimp only))
    refine hK.out _ _ (by (try dsimp only); (exact hk)) ?_
    clear hHeld hK; intro hHeld
    refine tkC 13 rfl ?_
    refine wpAnyH_ready (rs := [14]) (by kernel_rfl) (by simp) (AllReadyH.cons rfl (fun K hK => ?hcz6) AllReadyH.nil)
    go_simp
    ((first | refine zq7 (fun X1 hBX hL2 => ?_) | refine zq3 (fun X1 hBX hL2 => ?_)); have hk := hk.trans (hBX.mono hk.size); (try dsimp only))
    refine hK.out _ _ (by (try dsimp only); (exact hk)) ?_
    clear hHeld hK; intro hHeld
    refine tkC 15 rfl ?_
    refine wpAnyH_done (by kernel_rfl) ?_ _
    clear hHeld
    refine NoPanic.normal ?_
    go_wp2
    go_ret
    have hrg : ∀ x ∈ cs ++ [y], 0 <= x /\ x < 256 := by
      intro x hx
      rcases List.mem_append.1 hx with h | h
      · rw [HCS.out] at h
        split at h
        · cases h
        · exact HT.out.nm.2 x h
      · simp at h
        subst h
        exact HCD.out.2.2
    exact ⟨⟨_, rfl, by rw [HN2.out]; exact StepsOwn.lit ⟨⟨xl, true, false⟩, 1, cs ++ [y], -1⟩ _ hL2 (Nat.le_trans HX.out.1.1.size hzQ) (BysAt.of_own (l := cs ++ [y]) (by rw [zq60, List.length_append]; exact zq2 hownQ hBX) hrg)⟩, HX.out.1.1.trans (hk.mono HX.out.1.1.size)⟩
  | false =>
    have HN2 := hidep (HNG.out.trans (if_neg (by simp)))
    obtain ⟨k0, hk0⟩ : ∃ k0 : Nat, xl = (k0 : Int) /\ k0 < 2 := by
      rcases HXL.out with h | h
      · exact ⟨0, by simpa using h, by omega⟩
      · exact ⟨1, by simpa using h, by omega⟩
    obtain ⟨hk0, hk2⟩ := hk0
    obtain ⟨L, hL⟩ : ∃ L, L = T.at k0 := ⟨_, rfl⟩
    have hLr : T.rules xl = L := by
      rw [hL, hk0]
      unfold TabZ.rules TabZ.at
      rcases (by omega : k0 = 0 \/ k0 = 1) with rfl | rfl <;> rfl
    rw [hLr] at HN2
    obtain ⟨ra, rc, hcell, hrows, hrl, hrc⟩ := hX.1.at HT.out hk2
    have HOKL := hidep (HOK.out.at k0)
    have HRL4 := hidep (show ∀ r ∈ L, 1 <= r.text.size /\ r.text.size <= 8 /\ r.cells.length <= 4 from by rw [hL]; exact zq6d HV.out hk2)
    rw [<- hL] at hcell hrows hrl HOKL
    obtain ⟨lead, hlead⟩ : ∃ x, x = leadZ T ⟨xl, sn, sw⟩ xc := ⟨_, rfl⟩
    rw [<- hlead] at HN2
    have HLE := hidep (fun W => zq9d xc W HXR.out)
    have HLEAD := hidep hlead
    obtain ⟨lb, hlb⟩ : ∃ x, x = letB xc := ⟨_, rfl⟩
    obtain ⟨cb, hcb⟩ : ∃ x, x = capB xc := ⟨_, rfl⟩
    rw [<- hlb, <- hcb] at HLE
    rw [<- hlb] at HN2
    generalize lowZ xc = lz at HLE
    have HLC := hidep (And.intro hlb hcb)
    have HROW := hidep hrows
    have HRL := hidep (And.intro hrl hrc)
    have HRC := hidep (fun Y (hY : Below X.heap.size X Y) => (hY.cell (p := ⟨Bt, k0, none⟩) (lt_of_block hX.1.2)).trans hcell)
    have HLN := hidep (show T.en.length <= 4 /\ T.cp.length <= 4 from ⟨HDL.out.2.2.1, HDL.out.2.2.2.1⟩)
    clear hlb hcb hlead hrows hrl hrc hL hLr hdb HNG hcell
    subst hk0
    have hkk : (k0 : Int) < 2 := by omega
    have hkp : (0 : Int) <= (k0 : Int) := by omega
    obtain ⟨ea, ec, hea, _, _⟩ := HT.out.en.1.form
    obtain ⟨pa, pc, hpa, _, _⟩ := HT.out.cp.1.form
    have HEN := hidep ((HT.out.en.below HX.out.1.1).1)
    have HCP := hidep ((HT.out.cp.below HX.out.1.1).1)
    rw [hea] at HEN
    rw [hpa] at HCP
    have HY := hidep (fun Y (hY : Below X.heap.size X Y) => by
      have hn := HX.out.below hY
      exact (⟨by rw [<- hea]; simp [World.cell?, hn.1.2], by rw [<- hpa]; simp [World.cell?, hn.1.2], by simp [World.cell?, hn.2.2], by simp [World.cell?, hn.2.2], by simp [World.cell?, hn.2.1], by simp [World.cell?, hn.2.1]⟩ :
        Y.cell? ⟨Bt, 5, none⟩ = some (.slice ea T.en.length ec) /\ Y.cell? ⟨Bt, 3, none⟩ = some (.slice pa T.cp.length pc) /\ Y.cell? ⟨Bc, 0, none⟩ = some (.int .i64 (k0 : Nat)) /\ Y.cell? ⟨Bc, 1, none⟩ = some (.int .u8 xc) /\ Y.cell? ⟨Bt + 1, 0, none⟩ = some (.int .i64 (k0 : Nat)) /\ Y.cell? ⟨Bt + 1, 1, none⟩ = some (.bool sn)))
    clear hX hea hpa
    go_upto_region 12 with (first
      | (go_at_call 89; refine (HDG.out _).mono ?_; rintro e w1 ⟨rfl, hw1⟩; rw [hw1]; clear hw1)
      | (go_at_call 90; refine (HLE.out _).mono ?_; rintro e w1 ⟨rfl, hw1⟩; rw [hw1]; clear hw1))
    refine wp_region_lit ?_
    refine zq5e rfl (v := .slice none 0 0) (w' := X) (by kernel_rfl) ?_
    refine wpList_nil ?_
    dsimp only [Exit.then]
    apply_assumption
    obtain ⟨cs1, hcs1⟩ : ∃ x, x = (if lb = true /\ sn = true then T.en else []) := ⟨_, rfl⟩
    have HCS1 := hidep hcs1
    clear hcs1 c0 c1 s0 s1
    refine wp_seq ?_
    refine zq17 (NtM X (.slice (some ⟨b, off, none⟩) n cap) (.int .i64 (i : Nat)) (.pointer (some ⟨Bt, 0, none⟩)) (.pointer (some ⟨Bt + 1, 0, none⟩)) (.pointer (some ⟨Bc, 0, none⟩)) (.bool lb) (.bool cb) cs1) ?s1 ?_
    case s1 =>
      intro K' hMK
      obtain ⟨gC, gD, gE, gF, gG, gH⟩ := HY.out _ (Below.refl _ _)
      have hone := zq33 T.en
      have hln := HLN.out
      have hen := HEN.out
      cases sn
      · go_wp2
        exact ⟨_, by kernel_rfl, by kernel_rfl, by kernel_rfl, by kernel_rfl, by kernel_rfl, by kernel_rfl, by kernel_rfl, by kernel_rfl, by kernel_rfl, by kernel_rfl, by rw [HCS1.out, if_neg (by simp)]; exact World.ownsRow_nil _ _ _ _, Below.refl _ _⟩
      cases lb
      · go_wp2
        exact ⟨_, by kernel_rfl, by kernel_rfl, by kernel_rfl, by kernel_rfl, by kernel_rfl, by kernel_rfl, by kernel_rfl, by kernel_rfl, by kernel_rfl, by kernel_rfl, by rw [HCS1.out, if_neg (by simp)]; exact World.ownsRow_nil _ _ _ _, Below.refl _ _⟩
      · go_wp2_with (at_builtin; refine zq4 _ rfl (.tmp 99) (.tmp 101) rfl slByt X.heap.size (.slice none 0 0) _ _ rfl (World.ownsRow_nil _ _ _ _) _ _ _ _ rfl hen hone (by unfold maxLen; omega) (by omega) (Nat.le_refl _) ?_; intro vP wP hownP hgrP hat hnl; clear hat hnl; (try simp only [Nat.zero_add, List.nil_append] at hownP); have hbP := (Below.refl X.heap.size X).grown hgrP (Nat.le_refl _) (fun g hg => by simp [Value.ownBlock] at hg))
        exact ⟨_, by kernel_rfl, by kernel_rfl, by kernel_rfl, by kernel_rfl, by kernel_rfl, by kernel_rfl, by kernel_rfl, by kernel_rfl, by kernel_rfl, by kernel_rfl, by rw [HCS1.out, if_pos (by simp)]; exact hownP, hbP⟩
    rintro ⟨tm1, ds⟩ W1 ⟨cv, hts, hds, e2, e3, e4, e5, e9, e12, e13, e14, hown1, hbl1⟩
    simp only at hts hds e2 e3 e4 e5 e9 e12 e13 e14
    subst hds
    rw [zqaa tm1 [] hts, e2, e3, e4, e5, e9, e12, e13, e14]
    clear hts e2 e3 e4 e5 e9 e12 e13 e14
    have hl1 : cs1.length <= 4 := by rw [HCS1.out]; have := HLN.out; split <;> simp <;> omega
    obtain ⟨a1, k1, rfl, hc1, hd1⟩ := (Rd.of_own hown1).form
    obtain ⟨cs2, hcs2⟩ : ∃ x, x = cs1 ++ (if cb = true then T.cp else []) := ⟨_, rfl⟩
    have HCS2 := hidep hcs2
    clear hcs2
    refine wp_seq ?_
    refine zq17 (NtM X (.slice (some ⟨b, off, none⟩) n cap) (.int .i64 (i : Nat)) (.pointer (some ⟨Bt, 0, none⟩)) (.pointer (some ⟨Bt + 1, 0, none⟩)) (.pointer (some ⟨Bc, 0, none⟩)) (.bool lb) (.bool cb) cs2) ?s2 ?_
    case s2 =>
      intro K' hMK
      obtain ⟨gC, gD, gE, gF, gG, gH⟩ := HY.out _ hbl1
      have hone := zq33 T.cp
      have hln := HLN.out
      have hcp := HCP.out.below hbl1
      have hs1 := hbl1.size
      cases cb
      · go_wp2
        exact ⟨_, by kernel_rfl, by kernel_rfl, by kernel_rfl, by kernel_rfl, by kernel_rfl, by kernel_rfl, by kernel_rfl, by kernel_rfl, by kernel_rfl, by kernel_rfl, by rw [HCS2.out, if_neg (by simp), List.append_nil]; exact hown1, hbl1⟩
      · go_wp2_with (at_builtin; refine zq4 _ rfl (.tmp 104) (.tmp 106) rfl slByt X.heap.size (.slice a1 cs1.length k1) _ _ rfl hown1 _ _ _ _ rfl hcp hone (by unfold maxLen; omega) (by omega) hs1 ?_; intro vP wP hownP hgrP hat hnl; clear hat hnl; have hbP := hbl1.grown hgrP hs1 (fun g hg => (hown1.lt g hg).1))
        exact ⟨_, by kernel_rfl, by kernel_rfl, by kernel_rfl, by kernel_rfl, by kernel_rfl, by kernel_rfl, by kernel_rfl, by kernel_rfl, by kernel_rfl, by kernel_rfl, by rw [HCS2.out, if_pos (by simp), zq60, List.length_append]; exact hownP, hbP⟩
    rintro ⟨tm2, ds⟩ Y ⟨cw, hts, hds, e2, e3, e4, e5, e9, e12, e13, e14, hown2, hbl2⟩
    simp only at hts hds e2 e3 e4 e5 e9 e12 e13 e14
    subst hds
    rw [zqaa tm2 [] hts, e2, e3, e4, e5, e9, e12, e13, e14]
    clear hts e2 e3 e4 e5 e9 e12 e13 e14
    have hls : leadZ T ⟨(k0 : Int), sn, sw⟩ xc = cs2 := by
      unfold leadZ
      rw [HCS2.out, HCS1.out, <- HLC.out.1, <- HLC.out.2]
      congr 1
      cases lb <;> cases sn <;> rfl
    rw [<- hls, <- HLEAD.out] at hown2
    have hl2 : lead.length <= 8 := by rw [HLEAD.out, hls, HCS2.out, List.length_append]; have := HLN.out; split <;> simp <;> omega
    have hrgl : ∀ x ∈ lead, 0 <= x /\ x < 256 := by
      intro x h
      rw [HLEAD.out] at h
      unfold leadZ at h
      rcases List.mem_append.1 h with h | h
      · split at h
        · exact HT.out.en.2 x h
        · cases h
      · split at h
        · exact HT.out.cp.2 x h
        · cases h
    obtain ⟨a2, k2, rfl, hc2, hd2⟩ := (Rd.of_own hown2).form
    have HLY := hidep (BysAt.of_own hown2 hrgl)
    have HBY := hidep hbl2
    have hcell := HRC.out _ hbl2
    have HROWY := hidep (HROW.out.below hbl2)
    obtain ⟨gC, gD, gE, gF, gG, gH⟩ := HY.out _ hbl2
    clear hls hown1 hbl1 hl1 hc1 hd1 HCS1 HCS2 hown2 hbl2 hrgl
    go_upto_region 19 with (fail)
    have HG := hidep (show VNt Y (k0 : Int) lb lead l i L (.slice none 0 0) (.int .i64 0) Y from ⟨0, Nat.zero_le _, rfl, StepsT.nil _ _ _, Below.refl _ _⟩)
    clear hcell hkk hkp gC gD gE gF gG gH
    refine wp_loop (LoopI 143 (fun tm ds wr => (slot tm 2) = .slice (some ⟨b, off, none⟩) n cap /\ (slot tm 3) = .int .i64 (i : Nat) /\ (slot tm 9) = .pointer (some ⟨Bc, 0, none⟩) /\ (slot tm 12) = .bool lb /\ (slot tm 14) = .slice a2 lead.length k2 /\ (slot tm 113) = .slice ra L.length rc /\ (slot tm 114) = .int .i64 (L.length : Nat) /\ ds = [] /\ VNt Y (k0 : Int) lb lead l i L (slot tm 15) (slot tm 115) wr)) (fun a' wr => L.length - natI (a'.tmps.getD 115 undef)) ?nlStart ?nlRound
    case' nlStart => refine LoopI.mk rfl ?_
    case' nlRound => (rintro ⟨t, ds⟩ wr ⟨hts, hrel⟩; dsimp only at hts hrel; rw [zqaa t ds hts])
    case nlStart => exact ⟨rfl, rfl, rfl, rfl, rfl, rfl, rfl, rfl, HG.out⟩
    clear HG
    obtain ⟨e2, e3, e9, e12, e14, e113, e114, hds, k, hk, e115, hst, hbw⟩ := hrel
    subst hds
    rw [e2, e3, e9, e12, e14, e113, e114, e115]
    clear e2 e3 e9 e12 e14 e113 e114 e115 hts
    obtain ⟨xs, hxs⟩ : ∃ xs, xs = zq20 (k0 : Int) lb lead l i (L.take k) 0 := ⟨_, rfl⟩
    rw [<- hxs] at hst
    have hxn : xs.length <= L.length := by
      rw [hxs]
      exact Nat.le_trans (zq67 _ _ _ _ _ _ _) (by rw [List.length_take]; omega)
    have HXS := hidep (And.intro hxs hxn)
    obtain ⟨us, hus, hown, hcells⟩ := hst
    obtain ⟨sta, stc, hsv, hst2, hst3⟩ := (Rd.of_own hown).form
    rw [hsv]
    rw [hsv] at hown
    have HBW := hidep hbw
    have HST := hidep (And.intro hus (And.intro hown hcells))
    by_cases hkL : k < L.length
    · have hki : (k : Int) < (L.length : Int) := by omega
      have hk1 : (0 : Int) <= (k : Int) := by omega
      have hLn := HOKL.out.2
      have hwk : IntKind.i64.wrap ((k : Int) + 1) = (k : Int) + 1 := IntWalk.i64_in _ (by omega)
      obtain ⟨rb, roff, ua, un, uc, rfl, hrb, hr0, hr1, hr2, hru⟩ := zq4e HROWY.out hkL
      have hok := HOKL.out.1 _ (List.getElem_mem hkL)
      have htk := ruleSteps_take (k0 : Int) lb lead l i L k hkL
      rw [<- hxs] at htk
      have hyl := HRL4.out _ (List.getElem_mem hkL)
      obtain ⟨y, hy⟩ : ∃ y, y = L[k] := ⟨_, rfl⟩
      rw [<- hy] at hr0 hr1 hru hok htk hyl
      have hXY := HX.out.1.1.trans (HBY.out.mono HX.out.1.1.size)
      have HF := hidep (fun W (hW : Below Y.heap.size Y W) => fitsT_any y ua un uc _ l i W hok.1 hyl.1 (HH.out.below (hXY.trans (hW.mono hXY.size))) HR.out hl HI.out)
      rw [<- HN.out] at HF
      obtain ⟨fb, hfb⟩ : ∃ fb, fb = fitsB y l i := ⟨_, rfl⟩
      rw [<- hfb] at HF htk
      have HTK := hidep htk
      have HYL := hidep hyl.2.2
      have HYC := hidep hru
      have HXY := hidep hXY
      obtain ⟨ys, yw, yc⟩ := y
      simp only at hr0 hr1 HF
      have HW := hidep (fun W (hW : Below Y.heap.size Y W) => by
        have hn := HX.out.below (HBY.out.trans (hW.mono HBY.out.size))
        exact (⟨(hW.cell (p := ⟨rb, roff + k * 3, none⟩) hrb).trans hr0, (hW.cell (p := ⟨rb, roff + k * 3 + 1, none⟩) hrb).trans hr1, (hW.cell (p := ⟨rb, roff + k * 3 + 2, none⟩) hrb).trans hr2, by simp [World.cell?, hn.2.2]⟩ :
          W.cell? ⟨rb, roff + k * 3, none⟩ = some (.string ys) /\ W.cell? ⟨rb, roff + k * 3 + 1, none⟩ = some (.int .i64 yw) /\ W.cell? ⟨rb, roff + k * 3 + 2, none⟩ = some (.slice ua un uc) /\ W.cell? ⟨Bc, 0, none⟩ = some (.int .i64 (k0 : Nat))))
      obtain ⟨g0, g1, g2, gE⟩ := HW.out _ HBW.out
      clear hyl hxs hxn hy hok htk hfb hus hown hcells hbw hrb hr0 hr1 hr2 hru hXY
      go_upto_region 21 with (fail)
      obtain ⟨Bq, hBq⟩ : ∃ B, B = wr.heap.size := ⟨_, rfl⟩
      refine zq9 (fun X5 => Below wr.heap.size wr X5 /\ X5.heap[Bq]? = some (.cells #[.string ys, .int .i64 yw, .slice ua un uc] 59)) ⟨(Below.refl _ _).alloc (Nat.le_refl _) _, by rw [hBq]; exact heap_alloc_new _ _⟩ ?_
      rintro X5 ⟨hb5, hq5⟩
      rw [<- hBq]
      clear hBq g0 g1 g2 gE
      have HB5 := hidep (HBW.out.trans (hb5.mono HBW.out.size))
      have HST5 := hidep (StepsT.below ⟨us, HST.out⟩ hb5)
      have hq0 : X5.cell? ⟨Bq, 0, none⟩ = some (.string ys) := by simp [World.cell?, hq5]
      have hq1 : X5.cell? ⟨Bq, 1, none⟩ = some (.int .i64 yw) := by simp [World.cell?, hq5]
      have hq2 : X5.cell? ⟨Bq, 2, none⟩ = some (.slice ua un uc) := by simp [World.cell?, hq5]
      have HQ5 := hidep hq5
      clear hq5 hb5 HST
      cases fb with
      | false =>
        have HT2 := hidep (HTK.out.trans (by simp : _ = xs))
        go_wp2_with (go_at_call 91; refine (HF.out _ HB5.out).mono ?_; rintro e w1 ⟨rfl, hbel⟩)
        refine ⟨LoopI.mk rfl ⟨rfl, rfl, rfl, rfl, rfl, rfl, rfl, rfl, k + 1, by omega, by show Value.int _ _ = _; go_num, by rw [HT2.out]; exact StepsT.below HST5.out hbel, HB5.out.trans (hbel.mono HB5.out.size)⟩, ?_⟩
        show L.length - _ < L.length - _
        simp [natI]; omega
      | true =>
        have HT2 := hidep (HTK.out.trans (by rw [if_pos rfl] : _ = xs ++ [⟨⟨(k0 : Int), false, lb⟩, ys.size, lead ++ yc, (k : Int)⟩]))
        go_upto_region 22 with (go_at_call 91; refine (HF.out _ HB5.out).mono ?_; rintro e w1 ⟨rfl, hbel⟩)
        have hb1 := HB5.out.trans (hbel.mono HB5.out.size)
        have hqq := zq0 hbel HQ5.out
        have HB1 := hidep hb1
        have HQ := hidep hqq
        have HBEL := hidep hbel
        have hxl := HXS.out.2
        have HL4 := hidep HYL.out
        clear hq0 hq1 hq2 hb1 hqq hbel
        obtain ⟨us1, hus1, hown1, hcells1⟩ := StepsT.below HST5.out HBEL.out
        have HCL := hidep (And.intro hus1 hcells1)
        clear hus1 hcells1
        refine wp_region_noPanic (wp_region_held_drew (S := (fun Z => Below Y.heap.size Y Z /\ Z.heap[Bq]? = some (.cells #[.string ys, .int .i64 yw, .slice ua un uc] 59))) (by kernel_rfl) ?hSz7 (fun hHeld => ?hRz7))
        case hSz7 => ((try dsimp only); (exact ⟨HB1.out.drew, HQ.out⟩))
        refine tkC 0 rfl ?_
        refine tkC 1 rfl ?_
        refine tkB 2 rfl (.inl ⟨by kernel_rfl, fun w hSw => by (obtain ⟨g0, g1, g2, gE⟩ := HW.out _ hSw.1; have hq0 : w.cell? ⟨Bq, 0, none⟩ = some (.string ys) := (by simp [World.cell?, hSw.2]); have hq2 : w.cell? ⟨Bq, 2, none⟩ = some (.slice ua un uc) := (by simp [World.cell?, hSw.2])); go_simp; first | done | with_reducible rfl⟩) ?_
        refine tkC 3 rfl ?_
        refine tkC 4 rfl ?_
        refine tkC 5 rfl ?_
        refine tkB 6 rfl (.inl ⟨by kernel_rfl, fun w hSw => by (obtain ⟨g0, g1, g2, gE⟩ := HW.out _ hSw.1; have hq0 : w.cell? ⟨Bq, 0, none⟩ = some (.string ys) := (by simp [World.cell?, hSw.2]); have hq2 : w.cell? ⟨Bq, 2, none⟩ = some (.slice ua un uc) := (by simp [World.cell?, hSw.2])); go_simp; first | done | with_reducible rfl⟩) ?_
        refine tkC 7 rfl ?_
        refine tkC 8 rfl ?_
        refine tkC 9 rfl ?_
        refine tkB 10 rfl (.inl ⟨by kernel_rfl, fun w hSw => by (obtain ⟨g0, g1, g2, gE⟩ := HW.out _ hSw.1; have hq0 : w.cell? ⟨Bq, 0, none⟩ = some (.string ys) := (by simp [World.cell?, hSw.2]); have hq2 : w.cell? ⟨Bq, 2, none⟩ = some (.slice ua un uc) := (by simp [World.cell?, hSw.2])); go_simp; first | done | with_reducible rfl⟩) ?_
        refine tkC 13 rfl ?_
        refine wpAnyH_ready (rs := [11]) (by kernel_rfl) (by simp) (AllReadyH.cons rfl (fun K hK => ?hcz8) AllReadyH.nil)
        go_simp
        ((first | refine zq7 (fun X6 hBX hL => ?_) | refine zq3 (fun X6 hBX hL => ?_)); have hb6 : Below w1.heap.size w1 X6 := (by first | exact hBX | exact ((Below.refl _ _).drew).trans hBX); have hk := HB1.out.trans (hb6.mono HB1.out.size); have hkq := zq0 hb6 HQ.out; (try dsimp only))
        refine hK.out _ _ (by (try dsimp only); (exact ⟨hk, hkq⟩)) ?_
        clear hHeld hK; intro hHeld
        refine wpAnyH_ready (rs := [12]) (by kernel_rfl) (by simp) (AllReadyH.cons rfl (fun K hK => ?hcz9) AllReadyH.nil)
        go_simp
        (go_at_call 92; refine (zq25 _ [lead, yc] X6 (zq55 hL (HLY.out.below hk) (HYC.out.below hk)) (by have := HL4.out; simp [zq2b] at this ⊢; omega)).mono ?_; rintro e' w7 ⟨v7, rfl, hown7, hb7⟩; obtain ⟨a7, c7, rfl, _, _⟩ := (Rd.of_own hown7).form; have hb17 := hb6.trans (hb7.mono hb6.size); have hk := hk.trans (hb7.mono hk.size); have hkq := zq0 hb7 hkq; (try dsimp only))
        refine hK.out _ _ (by (try dsimp only); (exact ⟨hk, hkq⟩)) ?_
        clear hHeld hK; intro hHeld
        refine tkC 14 rfl ?_
        refine wpAnyH_ready (rs := [15]) (by kernel_rfl) (by simp) (AllReadyH.cons rfl (fun K hK => ?hcz10) AllReadyH.nil)
        go_simp
        ((first | refine zq7 (fun X8 hB8 hL8 => ?_) | refine zq3 (fun X8 hB8 hL8 => ?_)); have hb18 := hb17.trans (hB8.mono hb17.size); have hk := hk.trans (hB8.mono hk.size); have hkq := zq0 hB8 hkq; (try dsimp only))
        refine hK.out _ _ (by (try dsimp only); (exact ⟨hk, hkq⟩)) ?_
        clear hHeld hK; intro hHeld
        refine wpAnyH_ready (rs := [16]) (by kernel_rfl) (by simp) (AllReadyH.cons rfl (fun K hK => ?hcz11) AllReadyH.nil)
        (refine zq11 _ rfl (.tmp 124) (.tmp 139) rfl slStpT Y.heap.size _ _ _ rfl (zq2 hown1 hb18) _ _ _ _ rfl (zq28 hL8) (by intro u hu; simp at hu; rcases hu with rfl | rfl | rfl | rfl | rfl | rfl <;> rfl) (by unfold maxLen; omega) (by omega) hk.size ?_; intro vQ wQ hownQ hgrQ hat hnl; clear hat hnl; have hk := hk.grown hgrQ hk.size (fun g hg => ((zq2 hown1 hb18).lt g hg).1); have hkq := grown_other (zq2 hown1 hb18) hgrQ hkq (by decide); (try dsimp only))
        refine hK.out _ _ (by (try dsimp only); (exact ⟨hk, hkq⟩)) ?_
        clear hHeld hK; intro hHeld
        refine tkC 17 rfl ?_
        refine wpAnyH_done (by kernel_rfl) ?_ _
        clear hHeld
        refine NoPanic.normal ?_
        have hcc : Rd X8 (· = 5) 1 (.slice a7 (lead.length + yc.length) c7) (lead ++ yc).length (byC (lead ++ yc)) := by
          have h := Rd.of_own (zq2 hown7 hB8)
          rw [show [lead, yc].flatten = lead ++ yc from by simp] at h
          rw [<- List.length_append]
          exact h
        have hrg : ∀ x ∈ lead ++ yc, 0 <= x /\ x < 256 := by
          intro x hx
          rcases List.mem_append.1 hx with h | h
          · exact HLY.out.2 x h
          · exact HYC.out.2 x h
        have HP := hidep (StepsT.push (s := ⟨⟨(k0 : Int), false, lb⟩, ys.size, lead ++ yc, (k : Int)⟩) (by decide) HCL.out.1 (zq2 hown1 hb18) (fun i a b => ⟨(HCL.out.2 i a b).1.below hb18, (HCL.out.2 i a b).2⟩) hcc hrg hownQ hgrQ)
        clear hownQ hgrQ hown1 hL hL8 hcc hrg
        go_wp2
        refine ⟨LoopI.mk rfl ⟨rfl, rfl, rfl, rfl, rfl, rfl, rfl, rfl, k + 1, by omega, by show Value.int _ _ = _; go_num, by rw [HT2.out]; exact HP.out, hk⟩, ?_⟩
        show L.length - _ < L.length - _
        simp [natI]; omega
    · have hki : ¬ (k : Int) < (L.length : Int) := by omega
      have hke : k = L.length := by omega
      have HE := hidep (show nextZ T ⟨(k0 : Int), sn, sw⟩ l i = xs from by rw [HN2.out, hxs, hke, List.take_length])
      clear hxs hxn hus hown hcells hbw
      go_wp2
      go_ret
      have hXY := HX.out.1.1.trans (HBY.out.mono HX.out.1.1.size)
      exact ⟨⟨.slice sta xs.length stc, rfl, by rw [HE.out]; exact StepsT.own ⟨us, HST.out⟩ hXY.size⟩, hXY.trans (HBW.out.mono hXY.size)⟩
end Go.Proofs.YtcfjepcflanjbaaGreat
