/- Contract: the reference's Next (dactylref06.Next). -/
import Derived.Test.YtcfjepcflanjbaaGreatBr02
import Derived.Test.YtcfjepcflanjbaaGreatBr10
import Derived.Test.YtcfjepcflanjbaaGreatBr07
namespace Go.Proofs.YtcfjepcflanjbaaGreat
open Go.RowKit Go.Lab Go.Shelf
set_option maxRecDepth 100000
theorem zqd6 (t : Array Value) (ds : List Deferred) (h : t.size = 125) : ({ tmps := t, defers := ds } : Act) = { tmps := #[slot t 0, slot t 1, slot t 2, slot t 3, slot t 4, slot t 5, slot t 6, slot t 7, slot t 8, slot t 9, slot t 10, slot t 11, slot t 12, slot t 13, slot t 14, slot t 15, slot t 16, slot t 17, slot t 18, slot t 19, slot t 20, slot t 21, slot t 22, slot t 23, slot t 24, slot t 25, slot t 26, slot t 27, slot t 28, slot t 29, slot t 30, slot t 31, slot t 32, slot t 33, slot t 34, slot t 35, slot t 36, slot t 37, slot t 38, slot t 39, slot t 40, slot t 41, slot t 42, slot t 43, slot t 44, slot t 45, slot t 46, slot t 47, slot t 48, slot t 49, slot t 50, slot t 51, slot t 52, slot t 53, slot t 54, slot t 55, slot t 56, slot t 57, slot t 58, slot t 59, slot t 60, slot t 61, slot t 62, slot t 63, slot t 64, slot t 65, slot t 66, slot t 67, slot t 68, slot t 69, slot t 70, slot t 71, slot t 72, slot t 73, slot t 74, slot t 75, slot t 76, slot t 77, slot t 78, slot t 79, slot t 80, slot t 81, slot t 82, slot t 83, slot t 84, slot t 85, slot t 86, slot t 87, slot t 88, slot t 89, slot t 90, slot t 91, slot t 92, slot t 93, slot t 94, slot t 95, slot t 96, slot t 97, slot t 98, slot t 99, slot t 100, slot t 101, slot t 102, slot t 103, slot t 104, slot t 105, slot t 106, slot t 107, slot t 108, slot t 109, slot t 110, slot t 111, slot t 112, slot t 113, slot t 114, slot t 115, slot t 116, slot t 117, slot t 118, slot t 119, slot t 120, slot t 121, slot t 122, slot t 123, slot t 124], defers := ds } :=
  (congrArg (fun x => ({ tmps := x, defers := ds } : Act)) (zq1e h)).trans (by kernel_rfl)
theorem slStpR : SlT Tryz.prog 67 70 (.agg #[.int .i64 0, .bool false, .bool false, .int .i64 0, .slice none 0 0, .int .i64 0]) 6 56 := ⟨by kernel_rfl, by kernel_rfl, rfl, by decide⟩
def NxX (w0 : World) (V : TabV) (st : StZ) (xl xc : Int) (Bt Bs Bc : Nat) (X : World) : Prop :=
  TbX w0 V Bt X /\ X.heap[Bs]? = some (.cells #[.int .i64 st.lang, .bool st.num, .bool st.word] 66) /\ X.heap[Bc]? = some (.cells #[.int .i64 xl, .int .u8 xc] 39)
theorem NxX.below {w0 X X' : World} {V : TabV} {st : StZ} {xl xc : Int} {Bt Bs Bc : Nat} (h : NxX w0 V st xl xc Bt Bs Bc X) (hb : Below X.heap.size X X') : NxX w0 V st xl xc Bt Bs Bc X' :=
  ⟨h.1.below hb, zq0 hb h.2.1, zq0 hb h.2.2⟩
def VNx (X : World) (lang : Int) (wd : Bool) (lead : List Int) (l : List Sym) (i : Nat) (L : List RuleZ) (tv kv : Value) (wr : World) : Prop :=
  ∃ k : Nat, k <= L.length /\ kv = .int .i64 (k : Nat) /\ StepsT 70 X.heap.size wr tv (zq20 lang wd lead l i (L.take k) 0) /\ Below X.heap.size X wr
def NxM (w1 : World) (v2 v3 v4 v5 v9 v12 v13 v14 v15 v16 : Value) (cs : List Int) : Act -> World -> Prop := fun a W => ∃ (cv : Value), a.tmps.size = 125 /\ a.defers = [] /\ slot a.tmps 2 = v2 /\ slot a.tmps 3 = v3 /\ slot a.tmps 4 = v4 /\ slot a.tmps 5 = v5 /\ slot a.tmps 9 = v9 /\ slot a.tmps 12 = v12 /\ slot a.tmps 13 = v13 /\ slot a.tmps 14 = v14 /\ slot a.tmps 15 = v15 /\ slot a.tmps 16 = v16 /\ slot a.tmps 17 = cv /\ W.ownsRow w1.heap.size 5 1 cv cs.length (byC cs) /\ Below w1.heap.size w1 W
set_option maxHeartbeats 4000000 in
theorem nextR_any (V : TabV) (T : TabZ) (st : StZ) (v : Value) (l : List Sym) (i : Nat) (w : World) (hT : TabIn w V T) (hok : TabOk T) (hv : zq8 T = 0) (h : SymsAt w v l) (hr : SymOk l) (hl : l.length <= 1000000) (hi : i < l.length) (hlang : ∀ x ∈ l, x.lang = 0 \/ x.lang = 1) :
    Calls Tryz.prog 26 #[V.v, .agg #[.int .i64 st.lang, .bool st.num, .bool st.word], v, .int .i64 (i : Nat)] w fun e w' => (∃ v', e = .returned v' /\ StepsOwn 70 w.heap.size w' v' (nextZ T st l i)) /\ Below w.heap.size w w' := by
  obtain ⟨a, cap, rfl, h2, h3⟩ := h.form
  unfold maxLen at h3
  obtain ⟨b, off, rfl, hb, hx0, hx1⟩ := h.at hi
  have hxr := hr _ (List.getElem_mem hi)
  have hxl := hlang _ (List.getElem_mem hi)
  have HSY := hidep (zq37 hi)
  obtain ⟨x, hxd⟩ : ∃ x, x = l[i] := ⟨_, rfl⟩
  rw [<- hxd] at hx0 hx1 hxr hxl HSY
  clear hxd
  obtain ⟨xl, xc⟩ := x
  simp only at hx0 hx1 hxr hxl
  obtain ⟨sl, sn, sw⟩ := st
  simp only
  have HT := hidep hT
  have HOK := hidep hok
  have hvv : T.dg.length = 10 /\ T.nm.length <= 4 /\ T.en.length <= 4 /\ T.cp.length <= 4 := by
    have h1 := hv
    unfold zq8 at h1
    split at h1
    · cases h1
    · split at h1
      · cases h1
      · rename_i h2
        simp only [Bool.not_eq_false, Bool.and_eq_true] at h2
        unfold zqc at h2
        simp only [Bool.and_eq_true, decide_eq_true_eq] at h2
        omega
  have HDL := hidep hvv
  have HV := hidep hv
  have HH := hidep h
  have HR := hidep hr
  obtain ⟨n, hn⟩ : ∃ n, n = l.length := ⟨_, rfl⟩
  have HN := hidep hn
  have HI := hidep hi
  have hin : (i : Int) < (n : Int) := by omega
  have hi0 : (0 : Int) <= (i : Int) := by omega
  rw [<- hn] at h2 ⊢
  have HB := hidep (And.intro hb (And.intro hx0 hx1))
  have HXL := hidep hxl
  have HXR := hidep (And.intro hxr.1 hxr.2.1)
  clear hT hok hv hvv h hr hn hi hlang hb hxl hxr hx0 hx1
  unfold TabV.v
  go_enter Tryz.func26, Tryz.ntmps26
  go_upto_region 1 with (fail)
  obtain ⟨Bt, hBt⟩ : ∃ B, B = w.heap.size := ⟨_, rfl⟩
  refine zq9 (fun X => TbX w V Bt X /\ X.heap[Bt + 1]? = some (.cells #[.int .i64 sl, .bool sn, .bool sw] 66)) ⟨⟨((Below.refl _ _).alloc (Nat.le_refl _) _).alloc (by rw [World.size_alloc]; omega) _, by rw [hBt]; exact zq0 ((Below.refl _ _).alloc (Nat.le_refl _) _) (heap_alloc_new _ _)⟩, by
    rw [hBt]
    have h := heap_alloc_new (w.alloc (.cells #[V.a, V.b, V.d, V.c, V.n, V.e, V.s] 29)) (.cells #[.int .i64 sl, .bool sn, .bool sw] 66)
    rw [World.size_alloc] at h
    exact h⟩ ?_
  rw [<- hBt]
  rintro X1 ⟨hX1, hS1⟩
  have hy0 := (hX1.1.cell (p := ⟨b, off + i * 2, none⟩) HB.out.1).trans HB.out.2.1
  have hy1 := (hX1.1.cell (p := ⟨b, off + i * 2 + 1, none⟩) HB.out.1).trans HB.out.2.2
  have HX1 := hidep (And.intro hX1 hS1)
  have HBT := hidep hBt
  clear hX1 hS1 hBt
  go_upto_region 2 with (fail)
  obtain ⟨Bc, hBc⟩ : ∃ B, B = X1.heap.size := ⟨_, rfl⟩
  refine zq9 (fun X => NxX w V ⟨sl, sn, sw⟩ xl xc Bt (Bt + 1) Bc X) ⟨HX1.out.1.below ((Below.refl _ _).alloc (Nat.le_refl _) _), zq0 ((Below.refl _ _).alloc (Nat.le_refl _) _) HX1.out.2, by rw [hBc]; exact heap_alloc_new _ _⟩ ?_
  rw [<- hBc]
  clear hBc hy0 hy1 HX1
  rintro X hX
  have c0 : X.cell? ⟨Bc, 0, none⟩ = some (.int .i64 xl) := by simp [World.cell?, hX.2.2]
  have c1 : X.cell? ⟨Bc, 1, none⟩ = some (.int .u8 xc) := by simp [World.cell?, hX.2.2]
  have s0 : X.cell? ⟨Bt + 1, 0, none⟩ = some (.int .i64 sl) := by simp [World.cell?, hX.2.1]
  have s1 : X.cell? ⟨Bt + 1, 1, none⟩ = some (.bool sn) := by simp [World.cell?, hX.2.1]
  by_cases hlg : xl = sl
  case neg =>
    have HNX := hidep (show nextZ T ⟨sl, sn, sw⟩ l i = [⟨⟨xl, false, false⟩, 0, T.sw, -1⟩] from by
      unfold nextZ; rw [HSY.out, if_pos hlg])
    obtain ⟨sa, sc, hs, _, _⟩ := HT.out.sw.1.form
    have ht5 : X.cell? ⟨Bt, 6, none⟩ = some (.slice sa T.sw.length sc) := by rw [<- hs]; simp [World.cell?, hX.1.2]
    have HX := hidep hX
    have HS := hidep hs
    clear hX hs
    go_wp2
    go_ret
    exact ⟨⟨_, rfl, by rw [HNX.out]; exact StepsOwn.one ⟨⟨xl, false, false⟩, 0, T.sw, -1⟩ _ HX.out.1.1.size (by rw [<- HS.out]; exact HT.out.sw.below HX.out.1.1)⟩, HX.out.1.1.alloc HX.out.1.1.size _⟩
  subst hlg
  have HNG := hidep (show nextZ T ⟨xl, sn, sw⟩ l i = if digB xc = true then [⟨⟨xl, true, false⟩, 1, (if sn = true then [] else T.nm) ++ [T.dg.getD (xc - 48).toNat 0], -1⟩] else zq20 xl (letB xc) (leadZ T ⟨xl, sn, sw⟩ xc) l i (T.rules xl) 0 from by
    unfold nextZ; rw [HSY.out, if_neg (by simp)])
  have HDG := hidep (fun W => digitR_any xc W)
  obtain ⟨db, hdb⟩ : ∃ db, db = digB xc := ⟨_, rfl⟩
  rw [<- hdb] at HDG HNG
  cases db with
  | true =>
    have hd := hdb.symm
    unfold digB at hd
    simp only [Bool.and_eq_true, decide_eq_true_eq] at hd
    obtain ⟨k, hk⟩ : ∃ k : Nat, xc = 48 + (k : Int) := ⟨(xc - 48).toNat, by omega⟩
    have hkd : k < T.dg.length := by rw [HDL.out.1]; omega
    obtain ⟨da, dc, hda, _, _⟩ := HT.out.dg.1.form
    have hdg := HT.out.dg
    rw [hda] at hdg
    obtain ⟨bd, od, rfl, hbd, hcd, hd1, hd2⟩ := hdg.at hkd
    obtain ⟨y, hy⟩ : ∃ y, y = T.dg[k] := ⟨_, rfl⟩
    rw [<- hy] at hcd hd1 hd2
    have hgy : T.dg.getD (xc - 48).toNat 0 = y := by rw [hk, show (48 + (k : Int) - 48).toNat = k from by omega, List.getD_eq_getElem?_getD, List.getElem?_eq_getElem hkd, hy]; rfl
    have HN2 := hidep (HNG.out.trans (by rw [if_pos rfl, hgy] : _ = [⟨⟨xl, true, false⟩, 1, (if sn = true then [] else T.nm) ++ [y], -1⟩]))
    have HCD := hidep (And.intro hbd (And.intro hcd (And.intro hd1 hd2)))
    have HDA := hidep hda
    have hwk : IntKind.u8.wrap (xc - 48) = (k : Int) := by rw [hk, show 48 + (k : Int) - 48 = (k : Int) from by omega]; exact IntWalk.u8_in _ (by omega)
    have hkl : (k : Int) < (T.dg.length : Int) := by omega
    have hk0 : (0 : Int) <= (k : Int) := by omega
    have HX := hidep hX
    have hy1 : ∀ Y, Below X.heap.size X Y -> Y.cell? ⟨Bt, 2, none⟩ = some (.slice (some ⟨bd, od, none⟩) T.dg.length dc) /\ Y.cell? ⟨bd, od + k, none⟩ = some (.int .u8 y) /\ Y.cell? ⟨Bc, 0, none⟩ = some (.int .i64 xl) /\ Y.cell? ⟨Bc, 1, none⟩ = some (.int .u8 xc) := by
      intro Y hY
      have hn := HX.out.below hY
      refine ⟨by rw [<- HDA.out]; simp [World.cell?, hn.1.2], (hn.1.1.cell (p := ⟨bd, od + k, none⟩) HCD.out.1).trans HCD.out.2.1, by simp [World.cell?, hn.2.2], by simp [World.cell?, hn.2.2]⟩
    have HY := hidep hy1
    obtain ⟨q2, qd, q0, q1⟩ := hy1 X (Below.refl _ _)
    clear hX hdb hd hda hdg hbd hcd hd1 hd2 hy hgy HNG hy1 hk hkd
    cases sn with
    | true =>
      go_upto_region 8 with (go_at_call 57; refine (HDG.out _).mono ?_; rintro e w1 ⟨rfl, hw1⟩; rw [hw1]; clear hw1)
      have HN3 := hidep (HN2.out.trans (by rw [if_pos trivial]; rfl : _ = [⟨⟨xl, true, false⟩, 1, [y], -1⟩]))
      have hbx := (Below.refl X.heap.size X).alloc (Nat.le_refl _) (.cells #[.int .u8 y] 5)
      obtain ⟨p2, pd, p0, p1⟩ := HY.out _ hbx
      have HBX := hidep hbx
      clear hbx
      have hsz := HX.out.1.1.size
      have HSZ := hidep hsz
      go_wp2_with (at_builtin; refine zq4 _ rfl (.tmp 44) (.tmp 52) rfl slByt X.heap.size (.slice none 0 0) 0 [] rfl (World.ownsRow_nil _ _ _ _) _ _ _ _ rfl (Rd.fresh X #[.int .u8 y] 5 1 1 rfl (by decide)) (by intro u hu; simp at hu; subst hu; rfl) (by unfold maxLen; omega) (by omega) (by simp) ?_; intro v3 w3 hown3 hgr3 hat hnl; clear hat hnl; simp only [Nat.zero_add, List.nil_append] at hown3; have hb3 := HBX.out.grown hgr3 (by simp) (fun g hg => by simp [Value.ownBlock] at hg); obtain ⟨r2, rd, r0, r1⟩ := HY.out _ hb3; obtain ⟨a3, c3, rfl, hc3, hc3'⟩ := (Rd.of_own hown3).form)
      go_ret
      exact ⟨⟨_, rfl, by rw [HN3.out]; exact StepsOwn.one ⟨⟨xl, true, false⟩, 1, [y], -1⟩ _ (by have := hb3.size; omega) (BysAt.of_own (l := [y]) hown3 (by intro x hx; simp at hx; subst hx; exact HCD.out.2.2))⟩, (HX.out.1.1.trans (hb3.mono HSZ.out)).alloc (by have := hb3.size; omega) _⟩
    | false =>
      have HN3 := hidep (HN2.out.trans (by rw [if_neg (by simp)] : _ = [⟨⟨xl, true, false⟩, 1, T.nm ++ [y], -1⟩]))
      have hnm := HT.out.nm.below HX.out.1.1
      obtain ⟨na, nc, hna, _, _⟩ := hnm.1.form
      have hq4 : X.cell? ⟨Bt, 4, none⟩ = some (.slice na T.nm.length nc) := by rw [<- hna]; simp [World.cell?, HX.out.1.2]
      have hrn := hnm.1
      rw [hna] at hrn
      have hone := zq33 T.nm
      have hnl4 := HDL.out.2.1
      have HNR := hidep hnm.2
      clear hna hnm
      have hsz := HX.out.1.1.size
      have HSZ := hidep hsz
      go_upto_region 8 with (first
        | (go_at_call 57; refine (HDG.out _).mono ?_; rintro e w1 ⟨rfl, hw1⟩; rw [hw1]; clear hw1)
        | (at_builtin; refine zq4 _ rfl (.tmp 40) (.tmp 42) rfl slByt X.heap.size (.slice none 0 0) 0 [] rfl (World.ownsRow_nil _ _ _ _) _ _ _ _ rfl hrn hone (by unfold maxLen; omega) (by omega) (by simp) ?_; intro v2 w2 hown2 hgr2 hat hnl; clear hat hnl; simp only [Nat.zero_add, List.nil_append] at hown2; have hb2 := (Below.refl X.heap.size X).grown hgr2 (by simp) (fun g hg => by simp [Value.ownBlock] at hg); obtain ⟨p2, pd, p0, p1⟩ := HY.out _ hb2; obtain ⟨a2, c2, rfl, hc2, hc2'⟩ := (Rd.of_own hown2).form))
      have hbx := hb2.alloc hb2.size (.cells #[.int .u8 y] 5)
      obtain ⟨q2, qd, q0, q1⟩ := HY.out _ hbx
      have HBX := hidep hbx
      have hs2 := hb2.size
      clear hbx hq4 hrn
      go_wp2_with (at_builtin; refine zq4 _ rfl (.tmp 44) (.tmp 52) rfl slByt X.heap.size (.slice a2 T.nm.length c2) _ _ rfl (hown2.alloc _) _ _ _ _ rfl (Rd.fresh w2 #[.int .u8 y] 5 1 1 rfl (by decide)) (by intro u hu; simp at hu; subst hu; rfl) (by unfold maxLen; omega) (by omega) (by simp; omega) ?_; intro v3 w3 hown3 hgr3 hat hnl; clear hat hnl; have hb3 := HBX.out.grown hgr3 (by simp; omega) (fun g hg => ((hown2.alloc (.cells #[.int .u8 y] 5)).lt g hg).1); obtain ⟨r2, rd, r0, r1⟩ := HY.out _ hb3; obtain ⟨a3, c3, rfl, hc3, hc3'⟩ := (Rd.of_own hown3).form)
      go_ret
      have hrg : ∀ x ∈ T.nm ++ [y], 0 <= x /\ x < 256 := by
        intro x hx
        rcases List.mem_append.1 hx with h | h
        · exact HNR.out x h
        · simp at h
          subst h
          exact HCD.out.2.2
      exact ⟨⟨_, rfl, by rw [HN3.out]; exact StepsOwn.one ⟨⟨xl, true, false⟩, 1, T.nm ++ [y], -1⟩ _ (by have := hb3.size; omega) (BysAt.of_own (l := T.nm ++ [y]) (by rw [zq60, List.length_append]; exact hown3) (hrg))⟩, (HX.out.1.1.trans (hb3.mono HSZ.out)).alloc (by have := hb3.size; omega) _⟩
  | false =>
    have HN2 := hidep (HNG.out.trans (if_neg (by simp)))
    obtain ⟨k0, hk0⟩ : ∃ k0 : Nat, xl = (k0 : Int) /\ k0 < 2 := by
      rcases HXL.out with h | h
      · exact ⟨0, by simpa using h, by omega⟩
      · exact ⟨1, by simpa using h, by omega⟩
    obtain ⟨hk0, hk2⟩ := hk0
    obtain ⟨L, hL⟩ : ∃ L, L = T.at k0 := ⟨_, rfl⟩
    have hLr : T.rules xl = L := by
      rw [hL, hk0]
      unfold TabZ.rules TabZ.at
      rcases (by omega : k0 = 0 \/ k0 = 1) with rfl | rfl <;> rfl
    rw [hLr] at HN2
    obtain ⟨ra, rc, hcell, hrows, hrl, hrc⟩ := hX.1.at HT.out hk2
    have HOKL := hidep (HOK.out.at k0)
    have HRL4 := hidep (show ∀ r ∈ L, 1 <= r.text.size /\ r.text.size <= 8 /\ r.cells.length <= 4 from by rw [hL]; exact zq6d HV.out hk2)
    rw [<- hL] at hcell hrows hrl HOKL
    obtain ⟨lead, hlead⟩ : ∃ x, x = leadZ T ⟨xl, sn, sw⟩ xc := ⟨_, rfl⟩
    rw [<- hlead] at HN2
    have HLE := hidep (fun W => zq9b xc W HXR.out)
    have HLEAD := hidep hlead
    obtain ⟨lb, hlb⟩ : ∃ x, x = letB xc := ⟨_, rfl⟩
    obtain ⟨cb, hcb⟩ : ∃ x, x = capB xc := ⟨_, rfl⟩
    rw [<- hlb, <- hcb] at HLE
    rw [<- hlb] at HN2
    generalize lowZ xc = lz at HLE
    have HLC := hidep (And.intro hlb hcb)
    have HROW := hidep hrows
    have HRL := hidep (And.intro hrl hrc)
    have HK := hidep (And.intro hL hLr)
    clear hlb hcb hlead hrows hrl hrc hL hLr hdb HNG
    have HX := hidep hX
    subst hk0
    have hkk : (k0 : Int) < 2 := by omega
    have hkp : (0 : Int) <= (k0 : Int) := by omega
    clear hX
    go_upto_region 14 with (first
      | (go_at_call 57; refine (HDG.out _).mono ?_; rintro e w1 ⟨rfl, hw1⟩; rw [hw1]; clear hw1)
      | (go_at_call 58; refine (HLE.out _).mono ?_; rintro e w1 ⟨rfl, hw1⟩; rw [hw1]; clear hw1))
    have HG := hidep (show VNx X (k0 : Int) lb lead l i L (.slice none 0 0) (.int .i64 0) X from ⟨0, Nat.zero_le _, rfl, StepsT.nil _ _ _, Below.refl _ _⟩)
    clear hcell hkk hkp
    refine wp_loop (LoopI 125 (fun tm ds wr => (slot tm 2) = .slice (some ⟨b, off, none⟩) n cap /\ (slot tm 3) = .int .i64 (i : Nat) /\ (slot tm 4) = .pointer (some ⟨Bt, 0, none⟩) /\ (slot tm 5) = .pointer (some ⟨Bt + 1, 0, none⟩) /\ (slot tm 9) = .pointer (some ⟨Bc, 0, none⟩) /\ (slot tm 12) = .bool lb /\ (slot tm 13) = .bool cb /\ (slot tm 15) = .slice ra L.length rc /\ ds = [] /\ VNx X (k0 : Int) lb lead l i L (slot tm 14) (slot tm 16) wr)) (fun a' wr => L.length - natI (a'.tmps.getD 16 undef)) ?nlStart ?nlRound
    case' nlStart => refine LoopI.mk rfl ?_
    case' nlRound => (rintro ⟨t, ds⟩ wr ⟨hts, hrel⟩; dsimp only at hts hrel; rw [zqd6 t ds hts])
    case nlStart => exact ⟨rfl, rfl, rfl, rfl, rfl, rfl, rfl, rfl, rfl, HG.out⟩
    clear HG c0 c1 s0 s1
    obtain ⟨e2, e3, e4, e5, e9, e12, e13, e15, hds, k, hk, e16, hst, hbw⟩ := hrel
    subst hds
    rw [e2, e3, e4, e5, e9, e12, e13, e15, e16]
    clear e2 e3 e4 e5 e9 e12 e13 e15 e16 hts
    obtain ⟨xs, hxs⟩ : ∃ xs, xs = zq20 (k0 : Int) lb lead l i (L.take k) 0 := ⟨_, rfl⟩
    rw [<- hxs] at hst
    have hxn : xs.length <= L.length := by
      rw [hxs]
      exact Nat.le_trans (zq67 _ _ _ _ _ _ _) (by rw [List.length_take]; omega)
    have HXS := hidep (And.intro hxs hxn)
    obtain ⟨us, hus, hown, hcells⟩ := hst
    obtain ⟨sta, stc, hsv, hst2, hst3⟩ := (Rd.of_own hown).form
    rw [hsv]
    rw [hsv] at hown
    by_cases hkL : k < L.length
    · have hki : (k : Int) < (L.length : Int) := by omega
      have hk1 : (0 : Int) <= (k : Int) := by omega
      have hLn := HOKL.out.2
      have hwk : IntKind.i64.wrap ((k : Int) + 1) = (k : Int) + 1 := IntWalk.i64_in _ (by omega)
      obtain ⟨rb, roff, ua, un, uc, rfl, hrb, hr0, hr1, hr2, hru⟩ := zq4e HROW.out hkL
      have hok := HOKL.out.1 _ (List.getElem_mem hkL)
      have htk := ruleSteps_take (k0 : Int) lb lead l i L k hkL
      rw [<- hxs] at htk
      obtain ⟨y, hy⟩ : ∃ y, y = L[k] := ⟨_, rfl⟩
      rw [<- hy] at hr0 hr1 hru hok htk
      have hsym := HH.out.below (HX.out.1.1.trans (hbw.mono HX.out.1.1.size))
      have hF := fitsR_any y ua un uc _ l i wr hok.1 hsym HR.out hl (by have := HI.out; omega)
      rw [<- HN.out] at hF
      obtain ⟨fb, hfb⟩ : ∃ fb, fb = fitsB y l i := ⟨_, rfl⟩
      rw [<- hfb] at hF htk
      have HF := hidep hF
      have HTK := hidep htk
      have HRU := hidep (And.intro hru hok)
      have hyl := HRL4.out _ (List.getElem_mem hkL)
      rw [<- hy] at hyl
      have HYL := hidep hyl.2.2
      have HST := hidep (And.intro hus (And.intro hown hcells))
      have HBW := hidep hbw
      clear hyl hxs hxn hy hok htk hsym hF hfb hus hown hcells hbw
      obtain ⟨ys, yw, yc⟩ := y
      simp only at hr0 hr1 hr2 hru
      obtain ⟨ea, ec, hea, _, _⟩ := HT.out.en.1.form
      obtain ⟨pa, pc, hpa, _, _⟩ := HT.out.cp.1.form
      have hyc := hru.1
      obtain ⟨ua', uc', huf, huc1, huc2⟩ := hyc.form
      have hun : un = yc.length := by injection huf
      subst hun
      have HW := hidep (fun Y (hY : Below X.heap.size X Y) => by
        have hn := HX.out.below hY
        exact (⟨(hY.cell (p := ⟨rb, roff + k * 3, none⟩) hrb).trans hr0, (hY.cell (p := ⟨rb, roff + k * 3 + 1, none⟩) hrb).trans hr1, (hY.cell (p := ⟨rb, roff + k * 3 + 2, none⟩) hrb).trans hr2, by rw [<- hea]; simp [World.cell?, hn.1.2], by rw [<- hpa]; simp [World.cell?, hn.1.2], by simp [World.cell?, hn.2.2], by simp [World.cell?, hn.2.2], by simp [World.cell?, hn.2.1], by simp [World.cell?, hn.2.1]⟩ :
          Y.cell? ⟨rb, roff + k * 3, none⟩ = some (.string ys) /\ Y.cell? ⟨rb, roff + k * 3 + 1, none⟩ = some (.int .i64 yw) /\ Y.cell? ⟨rb, roff + k * 3 + 2, none⟩ = some (.slice ua yc.length uc) /\ Y.cell? ⟨Bt, 5, none⟩ = some (.slice ea T.en.length ec) /\ Y.cell? ⟨Bt, 3, none⟩ = some (.slice pa T.cp.length pc) /\ Y.cell? ⟨Bc, 0, none⟩ = some (.int .i64 (k0 : Nat)) /\ Y.cell? ⟨Bc, 1, none⟩ = some (.int .u8 xc) /\ Y.cell? ⟨Bt + 1, 0, none⟩ = some (.int .i64 (k0 : Nat)) /\ Y.cell? ⟨Bt + 1, 1, none⟩ = some (.bool sn)))
      obtain ⟨gA, gA1, gB, gC, gD, gE, gF, gG, gH⟩ := HW.out _ HBW.out
      have HUE := hidep (And.intro hea hpa)
      have HYC := hidep hru
      clear hea hpa huf huc1 huc2 hrb hr0 hr1 hr2 hyc hru
      cases fb with
      | false =>
        have HT2 := hidep (HTK.out.trans (by simp : _ = xs))
        go_wp2_with (go_at_call 59; refine HF.out.mono ?_; rintro e w1 ⟨rfl, hbel⟩)
        refine ⟨LoopI.mk rfl ⟨rfl, rfl, rfl, rfl, rfl, rfl, rfl, rfl, rfl, k + 1, by omega, by show Value.int _ _ = _; go_num, by rw [HT2.out]; exact StepsT.below ⟨us, HST.out⟩ hbel, HBW.out.trans (hbel.mono HBW.out.size)⟩, ?_⟩
        show L.length - _ < L.length - _
        simp [natI]; omega
      | true =>
        have HT2 := hidep (HTK.out.trans (by rw [if_pos rfl] : _ = xs ++ [⟨⟨(k0 : Int), false, lb⟩, ys.size, lead ++ yc, (k : Int)⟩]))
        go_upto_region 17 with (go_at_call 59; refine HF.out.mono ?_; rintro e w1 ⟨rfl, hbel⟩)
        have hb1 := HBW.out.trans (hbel.mono HBW.out.size)
        have HB1 := hidep hb1
        have hx1 := (HX.out.below hb1)
        have hen := (HT.out.en.below hx1.1.1).1
        have hcp := (HT.out.cp.below hx1.1.1).1
        rw [HUE.out.1] at hen
        rw [HUE.out.2] at hcp
        have HEN := hidep hen
        have HCP := hidep hcp
        have HST1 := hidep (StepsT.below ⟨us, HST.out⟩ hbel)
        have HBL := hidep hbel
        clear gA gA1 gB gC gD gE gF gG gH hx1 hen hcp hb1 hbel HF
        have HLN := hidep (show T.en.length <= 4 /\ T.cp.length <= 4 /\ yc.length <= 4 from ⟨HDL.out.2.2.1, HDL.out.2.2.2, HYL.out⟩)
        clear HST
        refine wp_region_lit ?_
        refine zq5e rfl (v := .slice none 0 0) (w' := w1) (by kernel_rfl) ?_
        refine wpList_nil ?_
        dsimp only [Exit.then]
        apply_assumption
        obtain ⟨cs1, hcs1⟩ : ∃ x, x = (if lb = true /\ sn = true then T.en else []) := ⟨_, rfl⟩
        have HCS1 := hidep hcs1
        clear hcs1
        refine wp_seq ?_
        refine zq17 (NxM w1 (.slice (some ⟨b, off, none⟩) n cap) (.int .i64 (i : Nat)) (.pointer (some ⟨Bt, 0, none⟩)) (.pointer (some ⟨Bt + 1, 0, none⟩)) (.pointer (some ⟨Bc, 0, none⟩)) (.bool lb) (.bool cb) (.slice sta xs.length stc) (.slice (some ⟨rb, roff, none⟩) L.length rc) (.int .i64 (k : Nat)) cs1) ?s1 ?_
        case s1 =>
          intro K' hMK
          obtain ⟨gA, gA1, gB, gC, gD, gE, gF, gG, gH⟩ := HW.out _ HB1.out
          have hone := zq33 T.en
          have hln := HLN.out
          have hen := HEN.out
          cases lb
          · go_wp2
            exact ⟨_, by kernel_rfl, by kernel_rfl, by kernel_rfl, by kernel_rfl, by kernel_rfl, by kernel_rfl, by kernel_rfl, by kernel_rfl, by kernel_rfl, by kernel_rfl, by kernel_rfl, by kernel_rfl, by kernel_rfl, by rw [HCS1.out, if_neg (by simp)]; exact World.ownsRow_nil _ _ _ _, Below.refl _ _⟩
          cases sn
          · go_wp2
            exact ⟨_, by kernel_rfl, by kernel_rfl, by kernel_rfl, by kernel_rfl, by kernel_rfl, by kernel_rfl, by kernel_rfl, by kernel_rfl, by kernel_rfl, by kernel_rfl, by kernel_rfl, by kernel_rfl, by kernel_rfl, by rw [HCS1.out, if_neg (by simp)]; exact World.ownsRow_nil _ _ _ _, Below.refl _ _⟩
          · go_wp2_with (at_builtin; refine zq4 _ rfl (.tmp 92) (.tmp 94) rfl slByt w1.heap.size (.slice none 0 0) _ _ rfl (World.ownsRow_nil _ _ _ _) _ _ _ _ rfl hen hone (by unfold maxLen; omega) (by omega) (Nat.le_refl _) ?_; intro vP wP hownP hgrP hat hnl; clear hat hnl; (try simp only [Nat.zero_add, List.nil_append] at hownP); have hbP := (Below.refl w1.heap.size w1).grown hgrP (Nat.le_refl _) (fun g hg => by simp [Value.ownBlock] at hg))
            exact ⟨_, by kernel_rfl, by kernel_rfl, by kernel_rfl, by kernel_rfl, by kernel_rfl, by kernel_rfl, by kernel_rfl, by kernel_rfl, by kernel_rfl, by kernel_rfl, by kernel_rfl, by kernel_rfl, by kernel_rfl, by rw [HCS1.out, if_pos (by simp)]; exact hownP, hbP⟩
        rintro ⟨tm1, ds⟩ W1 ⟨cv, hts, hds, e2, e3, e4, e5, e9, e12, e13, e14, e15, e16, e17, hown1, hbl1⟩
        simp only at hts hds e2 e3 e4 e5 e9 e12 e13 e14 e15 e16 e17
        subst hds
        rw [zqd6 tm1 [] hts, e2, e3, e4, e5, e9, e12, e13, e14, e15, e16, e17]
        clear hts e2 e3 e4 e5 e9 e12 e13 e14 e15 e16 e17
        have hl1 : cs1.length <= 4 := by rw [HCS1.out]; have := HLN.out; split <;> simp <;> omega
        obtain ⟨a1, c1, rfl, hc1, hd1⟩ := (Rd.of_own hown1).form
        obtain ⟨cs2, hcs2⟩ : ∃ x, x = cs1 ++ (if cb = true then T.cp else []) := ⟨_, rfl⟩
        have HCS2 := hidep hcs2
        clear hcs2
        refine wp_seq ?_
        refine zq17 (NxM w1 (.slice (some ⟨b, off, none⟩) n cap) (.int .i64 (i : Nat)) (.pointer (some ⟨Bt, 0, none⟩)) (.pointer (some ⟨Bt + 1, 0, none⟩)) (.pointer (some ⟨Bc, 0, none⟩)) (.bool lb) (.bool cb) (.slice sta xs.length stc) (.slice (some ⟨rb, roff, none⟩) L.length rc) (.int .i64 (k : Nat)) cs2) ?s2 ?_
        case s2 =>
          intro K' hMK
          obtain ⟨gA, gA1, gB, gC, gD, gE, gF, gG, gH⟩ := HW.out _ (HB1.out.trans (hbl1.mono HB1.out.size))
          have hone := zq33 T.cp
          have hln := HLN.out
          have hcp := HCP.out.below hbl1
          have hs1 := hbl1.size
          cases cb
          · go_wp2
            exact ⟨_, by kernel_rfl, by kernel_rfl, by kernel_rfl, by kernel_rfl, by kernel_rfl, by kernel_rfl, by kernel_rfl, by kernel_rfl, by kernel_rfl, by kernel_rfl, by kernel_rfl, by kernel_rfl, by kernel_rfl, by rw [HCS2.out, if_neg (by simp), List.append_nil]; exact hown1, hbl1⟩
          · go_wp2_with (at_builtin; refine zq4 _ rfl (.tmp 97) (.tmp 99) rfl slByt w1.heap.size (.slice a1 cs1.length c1) _ _ rfl hown1 _ _ _ _ rfl hcp hone (by unfold maxLen; omega) (by omega) hs1 ?_; intro vP wP hownP hgrP hat hnl; clear hat hnl; have hbP := hbl1.grown hgrP hs1 (fun g hg => (hown1.lt g hg).1))
            exact ⟨_, by kernel_rfl, by kernel_rfl, by kernel_rfl, by kernel_rfl, by kernel_rfl, by kernel_rfl, by kernel_rfl, by kernel_rfl, by kernel_rfl, by kernel_rfl, by kernel_rfl, by kernel_rfl, by kernel_rfl, by rw [HCS2.out, if_pos (by simp), zq60, List.length_append]; exact hownP, hbP⟩
        rintro ⟨tm2, ds⟩ W2 ⟨cw, hts, hds, e2, e3, e4, e5, e9, e12, e13, e14, e15, e16, e17, hown2, hbl2⟩
        simp only at hts hds e2 e3 e4 e5 e9 e12 e13 e14 e15 e16 e17
        subst hds
        rw [zqd6 tm2 [] hts, e2, e3, e4, e5, e9, e12, e13, e14, e15, e16, e17]
        clear hts e2 e3 e4 e5 e9 e12 e13 e14 e15 e16 e17
        have hls : leadZ T ⟨(k0 : Int), sn, sw⟩ xc = cs2 := by
          unfold leadZ
          rw [HCS2.out, HCS1.out, <- HLC.out.1, <- HLC.out.2]
          congr 1
          cases lb <;> cases sn <;> rfl
        rw [<- hls, <- HLEAD.out] at hown2
        have hl2 : lead.length <= 8 := by rw [HLEAD.out, hls, HCS2.out, List.length_append]; have := HLN.out; split <;> simp <;> omega
        obtain ⟨a2, c2, rfl, hc2, hd2⟩ := (Rd.of_own hown2).form
        clear hls hown1 hbl1 hl1 hc1 hd1 HCS1
        have hs2 := hbl2.size
        have hbX2 := HB1.out.trans (hbl2.mono HB1.out.size)
        obtain ⟨gA, gA1, gB, gC, gD, gE, gF, gG, gH⟩ := HW.out _ hbX2
        have hone := zq33 yc
        have hln := HLN.out
        have hyc := (HYC.out.below hbX2).1
        go_upto_region 23 with (at_builtin; refine zq4 _ rfl (.tmp 101) (.tmp 106) rfl slByt w1.heap.size (.slice a2 lead.length c2) _ _ rfl hown2 _ _ _ _ rfl hyc hone (by unfold maxLen; omega) (by omega) hs2 ?_; intro vP wP hownP hgrP hat hnl; clear hat hnl; have hbP := hbl2.grown hgrP hs2 (fun g hg => (hown2.lt g hg).1); obtain ⟨aP, cP, rfl, hcP, hdP⟩ := (Rd.of_own hownP).form)
        have hsP := hbP.size
        have hbXP := HB1.out.trans (hbP.mono HB1.out.size)
        have hrg : ∀ x ∈ lead ++ yc, 0 <= x /\ x < 256 := by
          intro x hx
          rcases List.mem_append.1 hx with h | h
          · rw [HLEAD.out] at h
            unfold leadZ at h
            rcases List.mem_append.1 h with h | h
            · split at h
              · exact HT.out.en.2 x h
              · cases h
            · split at h
              · exact HT.out.cp.2 x h
              · cases h
          · exact HYC.out.2 x h
        have hcc : Rd wP (· = 5) 1 (.slice aP (lead.length + yc.length) cP) (lead ++ yc).length (byC (lead ++ yc)) := by
          have := Rd.of_own hownP
          rw [zq60, List.length_append]
          exact this
        obtain ⟨us, hus, hownS, hcells⟩ := StepsT.below HST1.out hbP
        have HXP := hidep hbXP
        have HCC := hidep (And.intro hcc hrg)
        have HCL := hidep (And.intro hus hcells)
        have hxl := HXS.out.2
        have hLn4 := HOKL.out.2
        clear gA gA1 gB gC gD gE gF gG gH hyc hownP hcc hown2 hrg hus hcells
        refine wp_region_noPanic (wp_region_held_drew (S := (fun Y => Below X.heap.size X Y)) (by kernel_rfl) ?hSz0 (fun hHeld => ?hRz0))
        case hSz0 => ((try dsimp only); (exact HXP.out.drew))
        refine tkC 0 rfl ?_
        refine tkC 1 rfl ?_
        refine tkB 2 rfl (.inl ⟨by kernel_rfl, fun w hSw => by (obtain ⟨gA, gA1, gB, gC, gD, gE, gF, gG, gH⟩ := HW.out _ hSw); go_simp; first | done | with_reducible rfl⟩) ?_
        refine tkC 3 rfl ?_
        refine tkC 4 rfl ?_
        refine tkC 5 rfl ?_
        refine tkC 6 rfl ?_
        refine tkC 7 rfl ?_
        refine tkC 8 rfl ?_
        refine tkB 9 rfl (.inl ⟨by kernel_rfl, fun w hSw => by (obtain ⟨gA, gA1, gB, gC, gD, gE, gF, gG, gH⟩ := HW.out _ hSw); go_simp; first | done | with_reducible rfl⟩) ?_
        refine tkC 10 rfl ?_
        refine tkC 11 rfl ?_
        refine tkC 12 rfl ?_
        refine tkC 13 rfl ?_
        refine wpAnyH_ready (rs := [14]) (by kernel_rfl) (by simp) (AllReadyH.cons rfl (fun K hK => ?hcz1) AllReadyH.nil)
        go_simp
        ((first | refine zq7 (fun X1 hBX hL => ?_) | refine zq3 (fun X1 hBX hL => ?_)); have hb3 : Below wP.heap.size wP X1 := (by first | exact hBX | exact ((Below.refl _ _).drew).trans hBX); have hk := HXP.out.trans (hb3.mono HXP.out.size); (try dsimp only))
        refine hK.out _ _ (by (try dsimp only); (exact hk)) ?_
        clear hHeld hK; intro hHeld
        refine wpAnyH_ready (rs := [15]) (by kernel_rfl) (by simp) (AllReadyH.cons rfl (fun K hK => ?hcz2) AllReadyH.nil)
        (refine zq11 _ rfl (.tmp 108) (.tmp 122) rfl slStpR X.heap.size _ _ _ rfl (zq2 hownS hb3) _ _ _ _ rfl (zq28 hL) (by intro u hu; simp at hu; rcases hu with rfl | rfl | rfl | rfl | rfl | rfl <;> rfl) (by unfold maxLen; omega) (by omega) hk.size ?_; intro vQ wQ hownQ hgrQ hat hnl; clear hat hnl; have hk := hk.grown hgrQ hk.size (fun g hg => ((zq2 hownS hb3).lt g hg).1); (try dsimp only))
        refine hK.out _ _ (by (try dsimp only); (exact hk)) ?_
        clear hHeld hK; intro hHeld
        refine tkC 16 rfl ?_
        refine wpAnyH_done (by kernel_rfl) ?_ _
        clear hHeld
        refine NoPanic.normal ?_
        have HP := hidep (StepsT.push (s := ⟨⟨(k0 : Int), false, lb⟩, ys.size, lead ++ yc, (k : Int)⟩) (by decide) HCL.out.1 (zq2 hownS hb3) (fun i a b => ⟨(HCL.out.2 i a b).1.below hb3, (HCL.out.2 i a b).2⟩) (HCC.out.1.below hb3) HCC.out.2 hownQ hgrQ)
        clear hownQ hgrQ hownS hL
        go_wp2
        refine ⟨LoopI.mk rfl ⟨rfl, rfl, rfl, rfl, rfl, rfl, rfl, rfl, rfl, k + 1, by omega, by show Value.int _ _ = _; go_num, by rw [HT2.out]; exact HP.out, hk⟩, ?_⟩
        show L.length - _ < L.length - _
        simp [natI]; omega
    · have hki : ¬ (k : Int) < (L.length : Int) := by omega
      have hke : k = L.length := by omega
      have HE := hidep (show nextZ T ⟨(k0 : Int), sn, sw⟩ l i = xs from by rw [HN2.out, hxs, hke, List.take_length])
      have HST := hidep (And.intro hus (And.intro hown hcells))
      have HBW := hidep hbw
      clear hxs hxn hus hown hcells hbw
      go_wp2
      go_ret
      exact ⟨⟨.slice sta xs.length stc, rfl, by rw [HE.out]; exact StepsT.own ⟨us, HST.out⟩ HX.out.1.1.size⟩, HX.out.1.1.trans (HBW.out.mono HX.out.1.1.size)⟩
end Go.Proofs.YtcfjepcflanjbaaGreat
