/- Contract: the code's Is (back.Is): the plain recursion. -/
import Derived.Test.YtcfjepcflanjbaaGreatBr23
import Derived.Laws.EntriesVeiled
namespace Go.Proofs.YtcfjepcflanjbaaGreat
open Go.RowKit Go.Lab Go.Shelf
set_option maxRecDepth 100000
theorem zq19 {B : Nat} {a b c : World} {T : Nat -> Prop} (h : Below B a b) (hB : B <= a.heap.size) (ht : Turned T b c) (hT : ∀ k, T k -> B <= k) : Below B a c :=
  ⟨ht.os.trans h.os, ht.tape.trans h.tape, ht.output.trans h.output, Nat.le_trans h.size ht.size, fun k hk => (ht.block k (Nat.lt_of_lt_of_le hk (Nat.le_trans hB h.size)) (fun e => absurd (hT k e) (Nat.not_le.2 hk))).trans (h.block k hk)⟩
set_option maxHeartbeats 1000000 in
theorem isTopC_any (V : TabV) (T : TabZ) (lv cv : Value) (l : List Sym) (C : List Int) (w : World) (hT : TabIn w V T) (hok : TabOk T) (h : SymsAt w lv l) (hr : SymOk l) (hC : BysAt w cv C) :
    Calls Tryz.prog 20 #[V.v, lv, cv] w fun e w' => e = .returned (.bool (decide (zq8 T = 0) && (l.all goodB && (decide (l.length <= 2048) && (decide (C.length <= 8192) && isZ T l C))))) /\ Below w.heap.size w w' := by
  have HVT := hidep (fun W (hW : Below w.heap.size w W) => zqb6 V T W (hT.below hW) hok)
  have HGD := hidep (fun W (hW : Below w.heap.size w W) => containsFunc_is1 lv l W (h.below hW))
  have HLG := hidep (show l.all goodB = true -> ∀ x ∈ l, x.lang = 0 \/ x.lang = 1 from fun hg x hx => good_lang (List.all_eq_true.1 hg x hx))
  have HIS := hidep (fun (hv : zq8 T = 0) (hg : l.all goodB = true) (hl2 : l.length <= 2048) (hC2 : C.length <= 8192) (Bt Bl Bc Bb Bf Bm : Nat) W (hI : FrI w V T lv cv l C Bt Bl Bc Bb Bf Bm W) => from_any V T lv cv l C w Bt Bl Bc Bb Bf Bm hT hok hv h hr hg hl2 (HLG.out hg) hC hC2 (2 * l.length + 2) ⟨0, false, false⟩ 0 0 W (Nat.lt_succ_of_le (zqd7 _ _ _)) ⟨Nat.zero_le _, Nat.zero_le _, .inl rfl⟩ hI)
  obtain ⟨a, cap, rfl, h2, h3⟩ := h.form
  obtain ⟨ca, cc, rfl, hc2, hc3⟩ := hC.1.form
  unfold maxLen at h3 hc3
  obtain ⟨R, hR⟩ : ∃ R, R = (decide (zq8 T = 0) && (l.all goodB && (decide (l.length <= 2048) && (decide (C.length <= 8192) && isZ T l C)))) := ⟨_, rfl⟩
  rw [<- hR]
  have HRR := hidep hR
  have HISZ := hidep (show isV T l C (0, 0, ⟨0, false, false⟩) = isZ T l C from rfl)
  rw [HISZ.out] at HIS
  obtain ⟨z, hz⟩ : ∃ z, z = isZ T l C := ⟨_, rfl⟩
  rw [<- hz] at HRR HIS
  obtain ⟨g, hg⟩ : ∃ g, g = l.all goodB := ⟨_, rfl⟩
  rw [<- hg] at HGD HRR HIS
  obtain ⟨E, hE⟩ : ∃ E, E = zq8 T := ⟨_, rfl⟩
  rw [<- hE] at HVT HRR HIS
  obtain ⟨n, hn⟩ : ∃ n, n = l.length := ⟨_, rfl⟩
  obtain ⟨m, hm⟩ : ∃ m, m = C.length := ⟨_, rfl⟩
  have HN := hidep (And.intro hn hm)
  rw [<- hn] at h2 HRR HGD ⊢
  rw [<- hm] at hc2 HRR ⊢
  have HLL := hidep (And.intro hn (And.intro hm hg))
  clear hT hok h hr hC hR hz hg hE hn hm HISZ HLG
  unfold TabV.v at HVT ⊢
  go_enter Tryz.func20, Tryz.ntmps20
  go_upto_region 1 with (fail)
  obtain ⟨Bt, hBt⟩ : ∃ B, B = w.heap.size := ⟨_, rfl⟩
  refine zq9 (fun X => Below w.heap.size w X /\ X.heap[Bt]? = some (.cells #[V.a, V.b, V.d, V.c, V.n, V.e, V.s] 29) /\ X.heap[Bt + 1]? = some (.cells #[.slice a n cap] 31) /\ X.heap[Bt + 2]? = some (.cells #[.slice ca m cc] 23)) ⟨(((Below.refl _ _).alloc (Nat.le_refl _) _).alloc (by simp) _).alloc (by simp; omega) _, by rw [hBt]; exact (heap3 _ _ _ _).1, by rw [hBt]; exact (heap3 _ _ _ _).2.1, by rw [hBt]; exact (heap3 _ _ _ _).2.2⟩ ?_
  rintro X ⟨hbX, x0, x1, x2⟩
  rw [<- hBt]
  have HBX := hidep hbX
  have HX := hidep (And.intro x0 (And.intro x1 x2))
  have HTX := hidep (show TbX w V Bt X from ⟨hbX, x0⟩)
  obtain ⟨q0, q1, q2, q3, q4, q5, q6⟩ := tab7 HTX.out
  have qt : X.cell? ⟨Bt + 1, 0, none⟩ = some (.slice a n cap) := by simp [World.cell?, x1]
  have qc : X.cell? ⟨Bt + 2, 0, none⟩ = some (.slice ca m cc) := by simp [World.cell?, x2]
  clear hBt hbX x0 x1 x2
  by_cases hE0 : E = 0
  case neg =>
    have hne : (E != 0) = true := by simp [hE0]
    have HF := hidep (HRR.out.trans (by rw [decide_eq_false hE0, Bool.false_and]))
    clear hE0
    go_wp2_with (go_at_call 28; refine (HVT.out _ HBX.out).mono ?_; rintro e w1 ⟨rfl, hb1⟩)
    go_ret
    exact ⟨zqb (congrArg Value.bool HF.out.symm), HBX.out.trans (hb1.mono HBX.out.size)⟩
  have hne : (E != 0) = false := by simp [hE0]
  have HE0 := hidep hE0
  clear hE0
  by_cases hn2 : (n : Int) > 2048
  case pos =>
    have HF := hidep (HRR.out.trans (by rw [decide_eq_false (by omega : ¬ n <= 2048), Bool.false_and, Bool.and_false, Bool.and_false]))
    go_wp2_with (go_at_call 28; refine (HVT.out _ HBX.out).mono ?_; rintro e w1 ⟨rfl, hb1⟩; have qt1 : w1.cell? ⟨Bt + 1, 0, none⟩ = some (.slice a n cap) := (by simp [World.cell?, zq0 hb1 HX.out.2.1]))
    go_ret
    exact ⟨zqb (congrArg Value.bool HF.out.symm), HBX.out.trans (hb1.mono HBX.out.size)⟩
  by_cases hm2 : (m : Int) > 8192
  case pos =>
    have HF := hidep (HRR.out.trans (by rw [decide_eq_false (by omega : ¬ m <= 8192), Bool.false_and, Bool.and_false, Bool.and_false, Bool.and_false]))
    go_wp2_with (go_at_call 28; refine (HVT.out _ HBX.out).mono ?_; rintro e w1 ⟨rfl, hb1⟩; have qt1 : w1.cell? ⟨Bt + 1, 0, none⟩ = some (.slice a n cap) := (by simp [World.cell?, zq0 hb1 HX.out.2.1]); have qc1 : w1.cell? ⟨Bt + 2, 0, none⟩ = some (.slice ca m cc) := (by simp [World.cell?, zq0 hb1 HX.out.2.2]))
    go_ret
    exact ⟨zqb (congrArg Value.bool HF.out.symm), HBX.out.trans (hb1.mono HBX.out.size)⟩
  cases g with
  | false =>
    have HF := hidep (HRR.out.trans (by rw [Bool.false_and, Bool.and_false]))
    rw [Bool.not_false] at HGD
    go_wp2_with (first
      | (go_at_call 28; refine (HVT.out _ HBX.out).mono ?_; rintro e w1 ⟨rfl, hb1⟩; have qt1 : w1.cell? ⟨Bt + 1, 0, none⟩ = some (.slice a n cap) := (by simp [World.cell?, zq0 hb1 HX.out.2.1]); have qc1 : w1.cell? ⟨Bt + 2, 0, none⟩ = some (.slice ca m cc) := (by simp [World.cell?, zq0 hb1 HX.out.2.2]))
      | (go_at_call 49; refine (HGD.out _ (HBX.out.trans (hb1.mono HBX.out.size))).mono ?_; rintro e w2 ⟨rfl, hb2⟩))
    go_ret
    exact ⟨zqb (congrArg Value.bool HF.out.symm), (HBX.out.trans (hb1.mono HBX.out.size)).trans (hb2.mono (HBX.out.trans (hb1.mono HBX.out.size)).size)⟩
  | true =>
    have HF := hidep (HRR.out.trans (by rw [decide_eq_true HE0.out, decide_eq_true (by omega : n <= 2048), decide_eq_true (by omega : m <= 8192)]; simp : _ = z))
    rw [Bool.not_true] at HGD
    go_upto_region 5 with (first
      | (go_at_call 28; refine (HVT.out _ HBX.out).mono ?_; rintro e w1 ⟨rfl, hb1⟩; have qt1 : w1.cell? ⟨Bt + 1, 0, none⟩ = some (.slice a n cap) := (by simp [World.cell?, zq0 hb1 HX.out.2.1]); have qc1 : w1.cell? ⟨Bt + 2, 0, none⟩ = some (.slice ca m cc) := (by simp [World.cell?, zq0 hb1 HX.out.2.2]))
      | (go_at_call 49; refine (HGD.out _ (HBX.out.trans (hb1.mono HBX.out.size))).mono ?_; rintro e w2 ⟨rfl, hb2⟩))
    have hX2 := hb1.trans (hb2.mono hb1.size)
    have HX2 := hidep hX2
    have HBY := hidep (HBX.out.trans (hX2.mono HBX.out.size))
    clear q0 q1 q2 q3 q4 q5 q6 qt qc qt1 qc1 hb1 hb2 hX2
    have hmm := @run_makeMap Tryz.prog
    go_upto_region 8 with (fail)
    clear hmm
    have hh := heap3 w2 (.map #[] 0) (.cells #[.map (some w2.heap.size)] 93) (.cells #[fromV Bt (Bt + 1) (Bt + 2) (w2.heap.size + 1) (w2.heap.size + 2)] 94)
    have hb3 : Below w2.heap.size w2 (((w2.alloc (.map #[] 0)).alloc (.cells #[.map (some w2.heap.size)] 93)).alloc (.cells #[fromV Bt (Bt + 1) (Bt + 2) (w2.heap.size + 1) (w2.heap.size + 2)] 94)) := (((Below.refl _ _).alloc (Nat.le_refl _) _).alloc (by rw [World.size_alloc]; omega) _).alloc (by rw [World.size_alloc, World.size_alloc]; omega) _
    refine zq9 (fun W => Below w2.heap.size w2 W /\ FrI w V T (.slice a l.length cap) (.slice ca C.length cc) l C Bt (Bt + 1) (Bt + 2) (w2.heap.size + 1) (w2.heap.size + 2) w2.heap.size W) ⟨hb3, ?_⟩ ?_
    · have hx := HX2.out.trans (hb3.mono HX2.out.size)
      rw [<- HN.out.1, <- HN.out.2]
      refine ⟨HBX.out.trans (hx.mono HBX.out.size), zq0 hx HX.out.1, zq0 hx HX.out.2.1, zq0 hx HX.out.2.2, hh.2.1, hh.2.2, HBY.out.size, ⟨[], fun _ => .bool false, ?_, List.nodup_nil, (fun x hx => nomatch hx), (fun x => by rw [decide_eq_false (by simp)]), (fun x hx => nomatch hx)⟩⟩
      exact ((MapIs.made w2).below ((Below.refl _ _).alloc (Nat.le_refl _) _)).below ((Below.refl _ _).alloc (Nat.le_refl _) _)
    rintro W ⟨hbW, hI⟩
    have hsi := hI.sight
    have HI := hidep hI
    have HBW := hidep hbW
    have hqf := hsi.fn
    have HC2 := hidep (HIS.out HE0.out trivial (by rw [<- HN.out.1]; omega) (by rw [<- HN.out.2]; omega) _ _ _ _ _ _ _ hI)
    clear hsi hI hbW hh hb3
    go_wp2_with (go_at_call 51; refine HC2.out.mono ?_; rintro e w4 ⟨rfl, hI4, hT4⟩)
    go_ret
    refine ⟨zqb (congrArg Value.bool HF.out.symm), ?_⟩
    have h5 := HBY.out.trans (HBW.out.mono HBY.out.size)
    exact zq19 h5 (Nat.le_refl _) hT4 (fun b hb => by subst hb; exact HBY.out.size)
end Go.Proofs.YtcfjepcflanjbaaGreat
