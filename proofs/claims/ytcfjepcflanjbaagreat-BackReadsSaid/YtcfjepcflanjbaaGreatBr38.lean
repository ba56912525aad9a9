/- Contract: the helper of the examples: cells are read as a text. -/
import Derived.Test.YtcfjepcflanjbaaGreatBr02
import Derived.Test.YtcfjepcflanjbaaGreatBr37
import Derived.Test.YtcfjepcflanjbaaGreatBr36
namespace Go.Proofs.YtcfjepcflanjbaaGreat
open Go.RowKit Go.Lab Go.Shelf
set_option maxRecDepth 100000
theorem frame53 (t : Array Value) (ds : List Deferred) (h : t.size = 53) : ({ tmps := t, defers := ds } : Act) = { tmps := #[slot t 0, slot t 1, slot t 2, slot t 3, slot t 4, slot t 5, slot t 6, slot t 7, slot t 8, slot t 9, slot t 10, slot t 11, slot t 12, slot t 13, slot t 14, slot t 15, slot t 16, slot t 17, slot t 18, slot t 19, slot t 20, slot t 21, slot t 22, slot t 23, slot t 24, slot t 25, slot t 26, slot t 27, slot t 28, slot t 29, slot t 30, slot t 31, slot t 32, slot t 33, slot t 34, slot t 35, slot t 36, slot t 37, slot t 38, slot t 39, slot t 40, slot t 41, slot t 42, slot t 43, slot t 44, slot t 45, slot t 46, slot t 47, slot t 48, slot t 49, slot t 50, slot t 51, slot t 52], defers := ds } :=
  (congrArg (fun x => ({ tmps := x, defers := ds } : Act)) (zq1e h)).trans (by kernel_rfl)
theorem zqbb {r : RuleZ} (h : zqf r = true) : zq3e r := by
  unfold zqf at h
  simp only [Bool.and_eq_true, decide_eq_true_eq] at h
  obtain ⟨h1, h2, h3, h4, _⟩ := h
  exact ⟨by omega, by omega, by omega⟩
theorem tabOk_of {T : TabZ} (hv : zq8 T = 0) : TabOk T := by
  have h := zq7b hv
  have hl := valid_len hv
  exact ⟨fun r hr => zqbb (List.all_eq_true.1 h.1 r hr), fun r hr => zqbb (List.all_eq_true.1 h.2 r hr), by omega, by omega⟩
theorem sm_ok : TabOk zq1c := tabOk_of zqd3
def VRd (n : Nat) (w : World) (iv : Value) (wr : World) : Prop := ∃ j : Nat, j <= n /\ iv = .int .i64 (j : Nat) /\ Below w.heap.size w wr
set_option maxHeartbeats 2000000 in
theorem zq62 (cv : Value) (C : List Int) (lang : Int) (s : ByteArray) (L : List Sym) (w : World) (hC : BysAt w cv C) (hCl : C.length <= 100) (hr : readZ zq1c C = (L, 0)) (hl : L.length = s.size) (hs : s.size <= 100) (hc : ∀ j, (h : j < L.length) -> L[j].lang = lang /\ L[j].c = (byts s).getD j 0) (hok : SymOk L) (hg : L.all goodB = true) (his : isZ zq1c L C = true) :
    Calls Tryz.prog 47 #[cv, .int .i64 lang, .string s] w fun e w' => e = .returned (.bool true) /\ Below w.heap.size w w' := by
  obtain ⟨ca, cc, rfl, hcc, hcm⟩ := hC.1.form
  have HC := hidep hC
  have HSM := hidep (fun W => small_any W)
  have HR := hidep hr
  have HIS := hidep (show (decide (zq8 zq1c = 0) && (L.all goodB && (decide (L.length <= 2048) && (decide (C.length <= 8192) && isZ zq1c L C)))) = true from by
    rw [decide_eq_true zqd3, hg, decide_eq_true (by omega), decide_eq_true (by omega), his]
    rfl)
  have HL := hidep (And.intro hl hc)
  have HOK := hidep hok
  clear hC hr hg his hc hok
  obtain ⟨n, hn⟩ : ∃ n, n = L.length := ⟨_, rfl⟩
  have hns : (n : Int) = (s.size : Int) := by omega
  have HN := hidep hn
  have hne : ((n : Int) != (s.size : Int)) = false := by simp [hns]
  have HNS := hidep hns
  have hn100 : n <= 100 := by omega
  obtain ⟨cn, hcn⟩ : ∃ n, n = C.length := ⟨_, rfl⟩
  have HCN := hidep hcn
  rw [<- hcn] at hCl hcc ⊢
  clear hl hn hns hcn
  go_enter Tryz.func47, Tryz.ntmps47
  have HRD := hidep (fun (V : TabV) (W : World) (hT : TabIn W V zq1c) (hb : Below w.heap.size w W) => zqc3 V zq1c (.slice ca C.length cc) C W hT sm_ok (HC.out.below hb))
  rw [HR.out, <- HCN.out] at HRD
  go_upto_region 2 with (first
    | (go_at_call 48; refine (HSM.out _).mono ?_; rintro e w1 ⟨V, rfl, hT1, hb1⟩; unfold TabV.v)
    | (go_at_call 30; refine (HRD.out V _ hT1 hb1).mono ?_; rintro e w2 ⟨v2, rfl, hs2, hb2⟩; obtain ⟨a2, c2, rfl, -, -⟩ := hs2.form))
  have hb12 := hb1.trans (hb2.mono hb1.size)
  have H2 := hidep (And.intro hs2 hb12)
  clear hT1 hb1 hs2 hb2 hb12 HRD
  rw [<- HN.out]
  go_upto_region 5 with (fail)
  refine wp_loop (LoopI 53 (fun tm ds wr => (slot tm 0) = .slice ca cn cc /\ (slot tm 1) = .int .i64 lang /\ (slot tm 2) = .string s /\ (slot tm 7) = .slice a2 n c2 /\ ds = [] /\ VRd n w2 (slot tm 9) wr)) (fun a' wr => n - natI (a'.tmps.getD 9 undef)) ?olStart ?olRound
  case' olStart => refine LoopI.mk rfl ?_
  case' olRound => (rintro ⟨t, ds⟩ wr ⟨hts, hrel⟩; dsimp only at hts hrel; rw [frame53 t ds hts])
  case olStart => exact ⟨rfl, rfl, rfl, rfl, rfl, 0, Nat.zero_le _, rfl, Below.refl _ _⟩
  obtain ⟨e0, e1, e2, e7, hds, j, hj, e9, hbw⟩ := hrel
  subst hds
  rw [e0, e1, e2, e7, e9]
  clear e0 e1 e2 e7 e9 hts
  have HBW := hidep hbw
  by_cases hjn : j < n
  · have hji : (j : Int) < (n : Int) := by omega
    have hj0 : (0 : Int) <= (j : Int) := by omega
    have hwj : IntKind.i64.wrap ((j : Int) + 1) = (j : Int) + 1 := IntWalk.i64_in _ (by omega)
    have hjl : j < L.length := by rw [<- HN.out]; exact hjn
    have h2 := H2.out.1.below hbw
    obtain ⟨b, off, rfl, hb, x0, x1⟩ := h2.at hjl
    have hx := HL.out.2 j hjl
    have hjs : j < s.size := by have := HNS.out; omega
    have hjb : j < (byts s).length := by rw [zq1a]; exact hjs
    have hat := zq40 s j hjs hjb
    have hgd : (byts s).getD j 0 = (byts s)[j] := by rw [List.getD_eq_getElem?_getD, List.getElem?_eq_getElem hjb]; rfl
    rw [hx.1] at x0
    rw [hx.2, hgd] at x1
    obtain ⟨y, hy⟩ : ∃ y, y = (byts s)[j] := ⟨_, rfl⟩
    rw [<- hy] at hat x1
    have g1 : (lang != lang) = false := by simp
    have g2 : (y != y) = false := by simp
    have hjsi : (j : Int) < (s.size : Int) := by omega
    clear h2 hx hgd hy hbw
    go_upto_region 7 with (fail)
    go_quiet (fail)
    (try dsimp only [Exit.inBlock, Exit.then])
    try apply_assumption
    go_wp2
    refine ⟨LoopI.mk rfl ⟨rfl, rfl, rfl, rfl, rfl, j + 1, by omega, by show Value.int _ _ = _; go_num, HBW.out.trans ((zq6 (Below.refl _ _) _).mono HBW.out.size)⟩, ?_⟩
    show n - _ < n - _
    simp [natI]; omega
  · have hji : ¬ (j : Int) < (n : Int) := by omega
    have hbx := H2.out.2.trans (hbw.mono H2.out.2.size)
    have HBX := hidep hbx
    have HISC := hidep (fun (V : TabV) (W : World) (hT : TabIn W V zq1c) (hb : Below wr.heap.size wr W) => isTopC_any V zq1c (.slice a2 L.length c2) (.slice ca C.length cc) L C W hT sm_ok ((H2.out.1.below hbw).below hb) HOK.out ((HC.out.below hbx).below hb))
    rw [HIS.out, <- HCN.out, <- HN.out] at HISC
    clear hbw hbx
    go_wp2_with (first
      | (go_at_call 48; refine (HSM.out _).mono ?_; rintro e w3 ⟨V, rfl, hT3, hb3⟩; unfold TabV.v)
      | (go_at_call 20; refine (HISC.out V _ hT3 hb3).mono ?_; rintro e w4 ⟨rfl, hb4⟩))
    go_ret
    exact ⟨rfl, HBX.out.trans ((hb3.trans (hb4.mono hb3.size)).mono HBX.out.size)⟩
end Go.Proofs.YtcfjepcflanjbaaGreat
