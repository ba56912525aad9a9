/- Contract: the code's Good. -/
import Derived.Test.YtcfjepcflanjbaaGreatBr33
namespace Go.Proofs.YtcfjepcflanjbaaGreat
open Go.RowKit Go.Lab Go.Shelf
set_option maxRecDepth 100000
theorem Turned.thenU {T U : Nat -> Prop} {a b c : World} (h : Turned T a b) (k : Turned U b c) (hU : ∀ x, x < a.heap.size -> U x -> T x) : Turned T a c :=
  ⟨k.os.trans h.os, k.tape.trans h.tape, k.output.trans h.output, Nat.le_trans h.size k.size, fun x hx hT => (k.block x (Nat.lt_of_lt_of_le hx h.size) (fun e => hT (hU x hx e))).trans (h.block x hx hT)⟩
theorem PlssAt.row {W : World} {a : Option Addr} {n c : Nat} {ls : List (List PlZ)} (h : PlssAt W (.slice a (n + 1) c) n ls) {k : Nat} (hk : k < n + 1) : ∃ Lb ra rc, a = some ⟨Lb, 0, none⟩ /\ c = n + 1 /\ Lb < W.heap.size /\ W.cell? ⟨Lb, k, none⟩ = some (.slice ra (ls.getD k []).length rc) /\ Rd W (· = 133) 6 (.slice ra (ls.getD k []).length rc) (ls.getD k []).length (plsC k (ls.getD k [])) /\ (ls.getD k []).length <= rc /\ rc <= maxLen := by
  obtain ⟨vs, Lb, he, hrow, hl, hr⟩ := h
  injection he with e1 e2 e3
  have hkl : k < vs.length := by omega
  have h1 := hr k hkl
  obtain ⟨ra, rc, hv, h2, h3⟩ := h1.form
  rw [hv] at h1
  refine ⟨Lb, ra, rc, e1, e3, lt_of_block hrow, ?_, h1, h2, h3⟩
  rw [<- hv]
  simp only [World.cell?, hrow]
  simp [hkl]
theorem zqbf {W : World} {ra : Option Addr} {rc k : Nat} {ps : List PlZ} (h : Rd W (· = 133) 6 (.slice ra ps.length rc) ps.length (plsC k ps)) {i : Nat} (hi : i < ps.length) : ∃ b off, ra = some ⟨b, off, none⟩ /\ b < W.heap.size /\ ∀ j x, j < 6 -> (zq2e k ps[i])[j]? = some x -> W.cell? ⟨b, off + i * 6 + j, none⟩ = some x := by
  obtain ⟨b, off, e, hb, hc⟩ := Rd.at h (by omega)
  refine ⟨b, off, e, hb, fun j x hj hx => ?_⟩
  rw [Nat.add_assoc]
  apply hc
  rw [zqd2 k ps i j hi hj]
  exact hx
theorem PlssAt.keeps {W W' : World} {v : Value} {n : Nat} {ls : List (List PlZ)} (h : PlssAt W v n ls) (hk : Keeps (fun t => t ≠ 3) W W') : PlssAt W' v n ls := by
  obtain ⟨vs, Lb, he, hrow, hl, hr⟩ := h
  exact ⟨vs, Lb, he, hk.2 _ _ _ _ (by decide) hrow, hl, fun i hi => (hr i hi).keeps (hk.mono (fun t e => by subst e; decide))⟩

theorem PlssAt.rowK {W : World} {a : Option Addr} {n c : Nat} {ls : List (List PlZ)} (h : PlssAt W (.slice a (n + 1) c) n ls) {k : Nat} (hk : k < n + 1) : ∃ Lb ra rc, a = some ⟨Lb, 0, none⟩ /\ c = n + 1 /\ (ls.getD k []).length <= rc /\ rc <= maxLen /\ ∀ W', Keeps (fun t => t ≠ 3) W W' -> Lb < W'.heap.size /\ W'.cell? ⟨Lb, k, none⟩ = some (.slice ra (ls.getD k []).length rc) /\ Rd W' (· = 133) 6 (.slice ra (ls.getD k []).length rc) (ls.getD k []).length (plsC k (ls.getD k [])) := by
  obtain ⟨vs, Lb, he, hrow, hl, hr⟩ := h
  injection he with e1 e2 e3
  have hkl : k < vs.length := by omega
  have h1 := hr k hkl
  obtain ⟨ra, rc, hv, h2, h3⟩ := h1.form
  rw [hv] at h1
  refine ⟨Lb, ra, rc, e1, e3, h2, h3, fun W' hK => ?_⟩
  have hrow' := hK.2 _ _ _ _ (by decide) hrow
  refine ⟨lt_of_block hrow', ?_, h1.keeps (hK.mono (fun t e => by subst e; decide))⟩
  rw [<- hv]
  simp only [World.cell?, hrow']
  simp [hkl]
theorem turned_int {Mb : Nat} {w w' : World} {cur : Array Value} (h : Turned (fun b => b = Mb) w w') (hm : w.heap[Mb]? = some (.cells cur 3)) : Keeps (fun t => t ≠ 3) w w' :=
  ⟨h.size, fun b cur2 t fz ht hb => h.cells hb (fun e => by
    subst e
    rw [hm] at hb
    injection hb with hb
    injection hb with _ h2 _
    exact ht h2.symm)⟩
def VGo (T : TabZ) (C : List Int) (Mb : Nat) (n : Nat) (w6 : World) (kv : Value) (wr : World) : Prop :=
  ∃ k : Nat, k <= n + 1 /\ kv = .int .i64 (k : Nat) /\ wr.heap[Mb]? = some (.cells #[.int .i64 ((zq5c T C (liveZ T C) k : Nat) : Int)] 3) /\ Turned (fun b => b = Mb) w6 wr
def VGi (T : TabZ) (C : List Int) (A Mb k a : Nat) (ps : List PlZ) (w6 : World) (iv : Value) (wr : World) : Prop :=
  ∃ i : Nat, i <= ps.length /\ iv = .int .i64 (i : Nat) /\ wr.heap[A]? = some (.cells #[.int .i64 (k : Nat)] 3) /\ wr.heap[Mb]? = some (.cells #[.int .i64 ((gdRow T C k a (ps.take i) : Nat) : Int)] 3) /\ Turned (fun b => b = Mb) w6 wr
set_option maxHeartbeats 4000000 in
theorem goodC_any (V : TabV) (T : TabZ) (cv : Value) (C : List Int) (w : World) (hT : TabIn w V T) (hok : TabOk T) (hC : BysAt w cv C) :
    Calls Tryz.prog 44 #[V.v, cv] w fun e w' => e = .returned (.tuple #[.int .i64 (if zq29 T C = 0 then (goodZ T C : Int) else 0), .int .i64 (zq29 T C)]) /\ Below w.heap.size w w' := by
  have HCK := hidep (fun W (hW : Below w.heap.size w W) => zqb5 V T cv C W (hT.below hW) hok (hC.below hW))
  obtain ⟨ca, cc, rfl, hcc, hcm⟩ := hC.1.form
  unfold maxLen at hcm
  have HT := hidep (And.intro hT hok)
  have HC := hidep hC
  obtain ⟨E, hE⟩ : ∃ E, E = zq29 T C := ⟨_, rfl⟩
  have HE := hidep hE
  rw [<- hE] at HCK ⊢
  obtain ⟨n, hn⟩ : ∃ n, n = C.length := ⟨_, rfl⟩
  have HN := hidep hn
  rw [<- hn] at hcc HCK ⊢
  obtain ⟨G, hG⟩ : ∃ G : Int, G = if E = 0 then (goodZ T C : Int) else 0 := ⟨_, rfl⟩
  rw [<- hG]
  have HG := hidep hG
  unfold TabV.v at HCK ⊢
  clear hT hok hC hE hn hG
  go_enter Tryz.func44, Tryz.ntmps44
  go_upto_region 1 with (fail)
  obtain ⟨Bt, hBt⟩ : ∃ B, B = w.heap.size := ⟨_, rfl⟩
  refine zq9 (fun X => TbX w V Bt X /\ X.heap[Bt + 1]? = some (.cells #[.slice ca n cc] 23)) ⟨⟨((Below.refl _ _).alloc (Nat.le_refl _) _).alloc (by rw [World.size_alloc]; omega) _, by rw [hBt]; exact (heap2 _ _ _).1⟩, by rw [hBt]; exact (heap2 _ _ _).2⟩ ?_
  rintro X ⟨hX, hc⟩
  rw [show w.heap.size + 1 = Bt + 1 from by rw [hBt], <- hBt]
  have HX := hidep (And.intro hX hc)
  have HBT := hidep hBt
  obtain ⟨q0, q1, q2, q3, q4, q5, q6⟩ := tab7 hX
  have hqc := zq5 hc
  clear hX hc hBt
  by_cases hE0 : E = 0
  case neg =>
    have hne : (E != 0) = true := by simp [hE0]
    have HF := hidep (HG.out.trans (if_neg hE0))
    clear hE0
    go_wp2_with (go_at_call 66; refine (HCK.out _ HX.out.1.1).mono ?_; rintro e w1 ⟨rfl, hb1⟩)
    go_ret2
    exact ⟨by rw [HF.out]; rfl, HX.out.1.1.trans (hb1.mono HX.out.1.1.size)⟩
  have hne : (E != 0) = false := by simp [hE0]
  have hz := HE.out
  rw [hE0] at hz
  have hvz : zq8 T = 0 /\ C.length <= 8192 := by
    unfold zq29 at hz
    split at hz
    · rename_i h; exact absurd hz.symm h
    · rename_i h
      split at hz
      · cases hz
      · exact ⟨by omega, by omega⟩
  have HVZ := hidep hvz
  have HF := hidep (HG.out.trans (if_pos hE0))
  have HE0 := hidep hE0
  clear hE0 hz hvz
  go_upto_region 4 with (go_at_call 66; refine (HCK.out _ HX.out.1.1).mono ?_; rintro e w1 ⟨rfl, hb1⟩)
  have hX1 := HX.out.1.below hb1
  have hc1 := zq0 hb1 HX.out.2
  have HX1 := hidep (And.intro hX1 hc1)
  obtain ⟨q0, q1, q2, q3, q4, q5, q6⟩ := tab7 hX1
  have hqc := zq5 hc1
  clear hX1 hc1 hb1
  go_upto_region 5 with (fail)
  obtain ⟨R, hR⟩ : ∃ B, B = w1.heap.size := ⟨_, rfl⟩
  refine zq9 (fun X => Below w1.heap.size w1 X /\ X.heap[R]? = some (RdBox V (.slice ca n cc))) ⟨(Below.refl _ _).alloc (Nat.le_refl _) _, by rw [hR]; exact heap_alloc_new _ _⟩ ?_
  rintro X4 ⟨hb4, hr4⟩
  rw [<- hR]
  have HX4 := hidep (And.intro (HX1.out.1.1.trans (hb4.mono HX1.out.1.1.size)) (And.intro hr4 (zq0 hb4 HX1.out.2)))
  clear hR hb4 hr4 q0 q1 q2 q3 q4 q5 q6 hqc HX1
  go_upto_region 6 with (fail)
  obtain ⟨Mb, hMb⟩ : ∃ B, B = X4.heap.size := ⟨_, rfl⟩
  refine zq9 (fun X => Below X4.heap.size X4 X /\ X.heap[Mb]? = some (.cells #[.int .i64 0] 3)) ⟨(Below.refl _ _).alloc (Nat.le_refl _) _, by rw [hMb]; exact heap_alloc_new _ _⟩ ?_
  rintro X5 ⟨hb5, hm5⟩
  rw [<- hMb]
  have HX5 := hidep (And.intro hb5 (And.intro hm5 hMb))
  have hlow5 := HX4.out.1.trans (hb5.mono HX4.out.1.size)
  have HLV := hidep (live_any V T (.slice ca n cc) C R X5 (HT.out.1.below hlow5) HT.out.2 HVZ.out.1 (zq0 hb5 HX4.out.2.1) (by rw [HN.out]; exact HC.out.below hlow5) HVZ.out.2)
  clear hMb hb5 hm5 hlow5
  go_upto_region 7 with (go_at_call 78; refine HLV.out.mono ?_; rintro e w6 ⟨v6, rfl, hpl, hb6⟩; rw [<- HN.out] at hpl; obtain ⟨vs6, Lb, rfl, hpl2⟩ := hpl)
  have hplss : PlssAt w6 (.slice (some ⟨Lb, 0, none⟩) (n + 1) (n + 1)) n (liveZ T C) := ⟨vs6, Lb, rfl, hpl2⟩
  have HPL := hidep hplss
  have HB6 := hidep (And.intro (HX5.out.1.trans (hb6.mono HX5.out.1.size)) (zq0 hb6 HX5.out.2.1))
  have HMb := hidep (show X4.heap.size <= Mb /\ Mb < w6.heap.size from ⟨by have := HX5.out.2.2; omega, lt_of_block HB6.out.2⟩)
  clear hplss hpl2 hb6
  refine wp_loop (LoopI 44 (fun tm ds wr => (slot tm 3) = .pointer (some ⟨Bt + 1, 0, none⟩) /\ (slot tm 7) = .pointer (some ⟨R, 0, none⟩) /\ (slot tm 8) = .pointer (some ⟨Mb, 0, none⟩) /\ (slot tm 24) = .slice (some ⟨Lb, 0, none⟩) (n + 1) (n + 1) /\ (slot tm 25) = .int .i64 ((n : Int) + 1) /\ ds = [] /\ VGo T C Mb n w6 (slot tm 26) wr)) (fun a' wr => n + 1 - natI (a'.tmps.getD 26 undef)) ?olStart ?olRound
  case' olStart => refine LoopI.mk rfl ?_
  case' olRound => (rintro ⟨t, ds⟩ wr ⟨hts, hrel⟩; dsimp only at hts hrel; rw [zqc6 t ds hts])
  case olStart => exact ⟨rfl, rfl, rfl, rfl, rfl, rfl, 0, Nat.zero_le _, rfl, HB6.out.2, Turned.refl _ _⟩
  obtain ⟨e3, e7, e8, e24, e25, hds, k, hk, e26, hM, hT6⟩ := hrel
  subst hds
  rw [e3, e7, e8, e24, e25, e26]
  clear e3 e7 e8 e24 e25 e26 hts
  have HM := hidep (And.intro hM hT6)
  by_cases hkn : k < n + 1
  · have hki : (k : Int) < (n : Int) + 1 := by omega
    have hk0 : (0 : Int) <= (k : Int) := by omega
    have hn8 : n <= 8192 := by have := HVZ.out.2; have := HN.out; omega
    have hwk : IntKind.i64.wrap ((k : Int) + 1) = (k : Int) + 1 := IntWalk.i64_in _ (by omega)
    obtain ⟨Lb2, ra, rc, he, _, hrc, hrm, hrow⟩ := HPL.out.rowK hkn
    injection he with he
    injection he with he _
    subst he
    unfold maxLen at hrm
    have hck := (hrow _ (turned_int hT6 HB6.out.2)).2.1
    obtain ⟨ps, hps⟩ : ∃ x, x = (liveZ T C).getD k [] := ⟨_, rfl⟩
    have hlok := (zqe0 (C := C) HVZ.out.1 (T := T)).2 k
    rw [<- hps] at hck hrow hrc hlok
    have hp48 := zq61 hlok.1 hlok.2
    have HPS := hidep hps
    have HLOK := hidep hlok.2
    have HRD := hidep (fun W' hK => (hrow W' hK).2.2)
    clear hM hT6 hps hlok hrow
    obtain ⟨wo, hwo⟩ : ∃ wo : World, wo = wr := ⟨_, rfl⟩
    rw [<- hwo] at HM hck ⊢
    clear hwo
    go_upto_region 9 with (fail)
    obtain ⟨A, hA⟩ : ∃ B, B = wo.heap.size := ⟨_, rfl⟩
    refine zq9 (fun X => Below wo.heap.size wo X /\ X.heap[A]? = some (.cells #[.int .i64 (k : Nat)] 3)) ⟨(Below.refl _ _).alloc (Nat.le_refl _) _, by rw [hA]; exact heap_alloc_new _ _⟩ ?_
    rintro X7 ⟨hb7, hA7⟩
    rw [<- hA]
    have HX7 := hidep (And.intro hb7 (And.intro hA7 hA))
    have HAw := hidep (show w6.heap.size <= A /\ A ≠ Mb /\ X4.heap.size <= A from by have h1 := HM.out.2.size; have h2 := HMb.out.2; have h3 := HB6.out.1.size; omega)
    clear hb7 hA7 hA hck
    obtain ⟨a, ha⟩ : ∃ x, x = zq5c T C (liveZ T C) k := ⟨_, rfl⟩
    have HA := hidep ha
    have hstart : VGi T C A Mb k a ps w6 (.int .i64 0) X7 := ⟨0, Nat.zero_le _, rfl, HX7.out.2.1, by rw [ha]; exact zq0 HX7.out.1 HM.out.1, HM.out.2.below HX7.out.1⟩
    have HST := hidep hstart
    clear ha hstart
    go_upto_region 10 with (fail)
    refine wp_loop (LoopI 44 (fun tm ds wr => (slot tm 3) = .pointer (some ⟨Bt + 1, 0, none⟩) /\ (slot tm 7) = .pointer (some ⟨R, 0, none⟩) /\ (slot tm 8) = .pointer (some ⟨Mb, 0, none⟩) /\ (slot tm 9) = .pointer (some ⟨A, 0, none⟩) /\ (slot tm 24) = .slice (some ⟨Lb, 0, none⟩) (n + 1) (n + 1) /\ (slot tm 25) = .int .i64 ((n : Int) + 1) /\ (slot tm 26) = .int .i64 (k : Nat) /\ (slot tm 31) = .slice ra ps.length rc /\ (slot tm 32) = .int .i64 (ps.length : Nat) /\ ds = [] /\ VGi T C A Mb k a ps w6 (slot tm 33) wr)) (fun a' wr => ps.length - natI (a'.tmps.getD 33 undef)) ?ilStart ?ilRound
    case' ilStart => refine LoopI.mk rfl ?_
    case' ilRound => (rintro ⟨t, ds⟩ wr ⟨hts, hrel⟩; dsimp only at hts hrel; rw [zqc6 t ds hts])
    case ilStart => exact ⟨rfl, rfl, rfl, rfl, rfl, rfl, rfl, rfl, rfl, rfl, HST.out⟩
    clear HST
    obtain ⟨e3, e7, e8, e9, e24, e25, e26, e31, e32, hds, i, hi, e33, hAi, hMi, hTi⟩ := hrel
    subst hds
    rw [e3, e7, e8, e9, e24, e25, e26, e31, e32, e33]
    clear e3 e7 e8 e9 e24 e25 e26 e31 e32 e33 hts
    have HI := hidep (And.intro hAi (And.intro hMi hTi))
    clear hAi hMi hTi
    by_cases hip : i < ps.length
    · have hii : (i : Int) < (ps.length : Int) := by omega
      have hi0 : (0 : Int) <= (i : Int) := by omega
      have hwi : IntKind.i64.wrap ((i : Int) + 1) = (i : Int) + 1 := IntWalk.i64_in _ (by omega)
      have hrd := HRD.out _ (turned_int HI.out.2.2 HB6.out.2)
      obtain ⟨b, off, rfl, hbb, hpc⟩ := zqbf hrd hip
      obtain ⟨p, hp⟩ : ∃ x, x = ps[i] := ⟨_, rfl⟩
      rw [<- hp] at hpc
      have hpo : PlOk p := by rw [hp]; exact HLOK.out _ (List.getElem_mem hip)
      have HTK := hidep (show ps.take (i + 1) = ps.take i ++ [p] by rw [List.take_succ_eq_append_getElem hip, hp])
      have c0 := hpc 0 _ (by omega) rfl
      have c1 := hpc 1 _ (by omega) rfl
      have c2 := hpc 2 _ (by omega) rfl
      have c3 := hpc 3 _ (by omega) rfl
      have c4 := hpc 4 _ (by omega) rfl
      have c5 := hpc 5 _ (by omega) rfl
      rw [Nat.add_zero] at c0
      obtain ⟨ga, hga⟩ : ∃ x, x = gdRow T C k a (ps.take i) := ⟨_, rfl⟩
      have HGA := hidep hga
      have hmi := HI.out.2.1
      rw [<- hga] at hmi
      have HMI := hidep hmi
      clear hp hpc hrd hga hmi
      go_upto_region 12 with (fail)
      obtain ⟨Pb, hPb⟩ : ∃ B, B = wr.heap.size := ⟨_, rfl⟩
      refine zq9 (fun X => Below wr.heap.size wr X /\ X.heap[Pb]? = some (PlBox (k : Nat) p)) ⟨(Below.refl _ _).alloc (Nat.le_refl _) _, by rw [hPb]; exact heap_alloc_new _ _⟩ ?_
      rintro X8 ⟨hb8, hp8⟩
      rw [<- hPb]
      obtain ⟨p0, p1, p2, p3, p4, p5⟩ := pl6 hp8
      have HB8 := hidep hb8
      have hT68 := HI.out.2.2.below hb8
      have HT68 := hidep hT68
      have hX48 : Below X4.heap.size X4 X8 := zq19 (HB6.out.1) (Nat.le_refl _) hT68 (fun b e => by rw [e]; exact HMb.out.1)
      have HOF := hidep (zqba V T (.slice ca n cc) R X4 (HT.out.1.below HX4.out.1) HT.out.2 HVZ.out.1 HX4.out.2.1 p hpo.1 hpo.2 (k : Nat) 80 _ (GdJ X4 C A Mb k ga) (gd_taker T (.slice ca n cc) C X4 A (Bt + 1) Mb HVZ.out.1 (by rw [HN.out]; exact HC.out.below HX4.out.1) HVZ.out.2 HX4.out.2.2 k (by rw [<- HN.out]; omega) ga p hpo) (fun b => b = A \/ b = Mb) X8 ⟨hX48, zq0 hb8 HI.out.1, zq0 hb8 HMI.out, HAw.out.2.2, HMb.out.1, HAw.out.2.1, fun _ => Iff.rfl⟩)
      clear hPb hb8 hp8 hT68 hX48 c0 c1 c2 c3 c4 c5
      go_wp2_with (go_at_call 79; refine HOF.out.mono ?_; rintro e w9 ⟨rfl, B', hJ9, hT9, hB9⟩)
      obtain ⟨_, g2, g3, _⟩ := hJ9
      refine ⟨LoopI.mk rfl ⟨rfl, rfl, rfl, rfl, rfl, rfl, rfl, rfl, rfl, rfl, i + 1, by omega, by show Value.int _ _ = _; go_num, g2, ?_, ?_⟩, ?_⟩
      · rw [HTK.out]
        have e : gdRow T C k a (ps.take i ++ [p]) = (zqa T p).foldl (gdM C k) ga := by
          unfold gdRow
          rw [List.foldl_append, HGA.out]
          rfl
        rw [e]
        exact g3
      · exact HT68.out.thenU hT9 (fun x hx hU => by
          rcases hU with h | h
          · have := HAw.out.1; omega
          · exact h)
      · show ps.length - _ < ps.length - _
        simp [natI]; omega
    · have hii : ¬ (i : Int) < (ps.length : Int) := by omega
      have hie : i = ps.length := by omega
      have HE2 := hidep (show gdRow T C k a (ps.take i) = zq5c T C (liveZ T C) (k + 1) from by rw [hie, List.take_length, HA.out, HPS.out]; rfl)
      clear hie
      go_wp2
      refine ⟨LoopI.mk rfl ⟨rfl, rfl, rfl, rfl, rfl, rfl, k + 1, by omega, by show Value.int _ _ = _; go_num, by rw [<- HE2.out]; exact HI.out.2.1, HI.out.2.2⟩, ?_⟩
      show n + 1 - _ < n + 1 - _
      simp [natI]; omega
  · have hki : ¬ (k : Int) < (n : Int) + 1 := by omega
    have hke : k = n + 1 := by omega
    have hmb := zq5 hM
    have HE2 := hidep (show G = ((zq5c T C (liveZ T C) k : Nat) : Int) from by rw [HF.out, hke, HN.out]; rfl)
    clear hM hT6 hke
    go_wp2
    go_ret2
    refine ⟨by rw [HE2.out, HE0.out]; rfl, ?_⟩
    exact zq19 (HX4.out.1.trans (HB6.out.1.mono HX4.out.1.size)) (Nat.le_refl _) HM.out.2 (fun b hb => by subst hb; exact Nat.le_trans HX4.out.1.size HMb.out.1)
end Go.Proofs.YtcfjepcflanjbaaGreat
