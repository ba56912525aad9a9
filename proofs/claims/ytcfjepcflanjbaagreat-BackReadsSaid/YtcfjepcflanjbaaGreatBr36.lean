/- Contracts: the code's All and Read. -/
import Derived.Test.YtcfjepcflanjbaaGreatBr35
namespace Go.Proofs.YtcfjepcflanjbaaGreat
open Go.RowKit Go.Lab Go.Shelf
set_option maxRecDepth 100000
def allZ (T : TabZ) (C : List Int) (most : Int) : List (List Sym) × Int :=
  if zq29 T C ≠ 0 then ([], zq29 T C) else if most < 1 \/ 64 < most then ([], 1) else (txtZ T C most.toNat 0 pl0, 0)
def readZ (T : TabZ) (C : List Int) : List Sym × Int :=
  if zq29 T C ≠ 0 then ([], zq29 T C) else if (txtZ T C 2 0 pl0).length = 0 then ([], 2) else if (txtZ T C 2 0 pl0).length = 1 then ((txtZ T C 2 0 pl0).getD 0 [], 0) else ([], 17)
theorem SymssAt.nil (w : World) : SymssAt w (.slice none 0 0) [] := ⟨[], rfl, Rd.nil _ _ _, fun i h => by simp at h⟩
theorem zq7e {T : TabZ} {C : List Int} (h : zq29 T C = 0) : zq8 T = 0 /\ C.length <= 8192 := by
  unfold zq29 at h
  split at h
  · rename_i hne; exact absurd h hne
  · split at h
    · cases h
    · exact ⟨by omega, by omega⟩
set_option maxHeartbeats 4000000 in
theorem allC_any (V : TabV) (T : TabZ) (cv : Value) (C : List Int) (most : Int) (w : World) (hT : TabIn w V T) (hok : TabOk T) (hC : BysAt w cv C) :
    Calls Tryz.prog 42 #[V.v, cv, .int .i64 most] w fun e w' => ∃ v, e = .returned (.tuple #[v, .int .i64 (allZ T C most).2]) /\ SymssAt w' v (allZ T C most).1 /\ Below w.heap.size w w' := by
  have HCK := hidep (fun W (hW : Below w.heap.size w W) => zqb5 V T cv C W (hT.below hW) hok (hC.below hW))
  obtain ⟨ca, cc, rfl, hcc, hcm⟩ := hC.1.form
  unfold maxLen at hcm
  have HT := hidep (And.intro hT (And.intro hok hC))
  obtain ⟨E, hE⟩ : ∃ E, E = zq29 T C := ⟨_, rfl⟩
  have HE := hidep hE
  have HAZ := hidep (show allZ T C most = if E ≠ 0 then ([], E) else if most < 1 \/ 64 < most then ([], 1) else (txtZ T C most.toNat 0 pl0, 0) from by rw [hE]; rfl)
  rw [<- hE] at HCK
  obtain ⟨R, hR⟩ : ∃ R, R = allZ T C most := ⟨_, rfl⟩
  rw [<- hR] at HAZ ⊢
  obtain ⟨n, hn⟩ : ∃ n, n = C.length := ⟨_, rfl⟩
  have HN := hidep hn
  rw [<- hn] at hcc HCK ⊢
  unfold TabV.v at HCK ⊢
  clear hT hok hC hE hn hR
  go_enter Tryz.func42, Tryz.ntmps42
  go_upto_region 1 with (fail)
  obtain ⟨Bt, hBt⟩ : ∃ B, B = w.heap.size := ⟨_, rfl⟩
  refine zq9 (fun X => TbX w V Bt X) ⟨(Below.refl _ _).alloc (Nat.le_refl _) _, by rw [hBt]; exact heap_alloc_new _ _⟩ ?_
  intro X hX
  rw [<- hBt]
  have HX := hidep hX
  obtain ⟨q0, q1, q2, q3, q4, q5, q6⟩ := tab7 hX
  clear hX hBt
  by_cases hE0 : E = 0
  case neg =>
    have hne : (E != 0) = true := by simp [hE0]
    have HF := hidep (HAZ.out.trans (if_pos hE0))
    clear hE0
    go_wp2_with (go_at_call 66; refine (HCK.out _ HX.out.1).mono ?_; rintro e w1 ⟨rfl, hb1⟩)
    go_ret2
    exact ⟨_, by rw [HF.out]; rfl, by rw [HF.out]; exact SymssAt.nil _, HX.out.1.trans (hb1.mono HX.out.1.size)⟩
  have hne : (E != 0) = false := by simp [hE0]
  have hz := HE.out
  rw [hE0] at hz
  have HVZ := hidep (zq7e hz.symm)
  have HA2 := hidep (HAZ.out.trans (if_neg (fun h => h hE0)))
  clear hE0 hz
  go_upto_region 4 with (go_at_call 66; refine (HCK.out _ HX.out.1).mono ?_; rintro e w1 ⟨rfl, hb1⟩)
  have hX1 := HX.out.below hb1
  have HX1 := hidep hX1
  obtain ⟨q0, q1, q2, q3, q4, q5, q6⟩ := tab7 hX1
  clear hX1 hb1
  by_cases hm1 : most < 1
  · have HF := hidep (HA2.out.trans (if_pos (.inl hm1)))
    go_wp2
    go_ret2
    exact ⟨_, by rw [HF.out]; rfl, by rw [HF.out]; exact SymssAt.nil _, HX1.out.1⟩
  by_cases hm2 : most > 64
  · have HF := hidep (HA2.out.trans (if_pos (.inr (by omega))))
    go_wp2
    go_ret2
    exact ⟨_, by rw [HF.out]; rfl, by rw [HF.out]; exact SymssAt.nil _, HX1.out.1⟩
  have HF := hidep (HA2.out.trans (if_neg (by omega)))
  obtain ⟨m, rfl⟩ : ∃ m : Nat, most = (m : Int) := ⟨most.toNat, by omega⟩
  rw [Int.toNat_natCast] at HF
  have HTX := hidep (fun (X4 : World) (B : Nat) (h4 : Below w1.heap.size w1 X4) (hr : X4.heap[B]? = some (RdBox V (.slice ca n cc))) => texts_any V T (.slice ca C.length cc) C B m X4 ((HT.out.1.below HX1.out.1).below (h4.mono (Nat.le_refl _))) HT.out.2.1 HVZ.out.1 (by rw [<- HN.out]; exact hr) ((HT.out.2.2.below HX1.out.1).below h4) HVZ.out.2 (by omega))
  go_wp2_with (go_at_call 67; refine (HTX.out _ _ ((Below.refl _ _).alloc (Nat.le_refl _) _) (heap_alloc_new _ _)).mono ?_; rintro e w5 ⟨v5, rfl, hs5, hb5⟩; obtain ⟨a5, c5, rfl, -, -⟩ := hs5.form)
  go_ret2
  refine ⟨_, by rw [HF.out]; rfl, by rw [HF.out]; exact hs5, ?_⟩
  exact (HX1.out.1.alloc HX1.out.1.size _).trans (hb5.mono (by rw [World.size_alloc]; have := HX1.out.1.size; omega))
set_option maxHeartbeats 4000000 in
theorem zqc3 (V : TabV) (T : TabZ) (cv : Value) (C : List Int) (w : World) (hT : TabIn w V T) (hok : TabOk T) (hC : BysAt w cv C) :
    Calls Tryz.prog 30 #[V.v, cv] w fun e w' => ∃ v, e = .returned (.tuple #[v, .int .i64 (readZ T C).2]) /\ SymsAt w' v (readZ T C).1 /\ Below w.heap.size w w' := by
  have HCK := hidep (fun W (hW : Below w.heap.size w W) => zqb5 V T cv C W (hT.below hW) hok (hC.below hW))
  obtain ⟨ca, cc, rfl, hcc, hcm⟩ := hC.1.form
  unfold maxLen at hcm
  have HT := hidep (And.intro hT (And.intro hok hC))
  obtain ⟨E, hE⟩ : ∃ E, E = zq29 T C := ⟨_, rfl⟩
  have HE := hidep hE
  obtain ⟨L, hL⟩ : ∃ L, L = txtZ T C 2 0 pl0 := ⟨_, rfl⟩
  have HAZ := hidep (show readZ T C = if E ≠ 0 then ([], E) else if L.length = 0 then ([], 2) else if L.length = 1 then (L.getD 0 [], 0) else ([], 17) from by rw [hE, hL]; rfl)
  have HLL := hidep hL
  rw [<- hE] at HCK
  obtain ⟨R, hR⟩ : ∃ R, R = readZ T C := ⟨_, rfl⟩
  rw [<- hR] at HAZ ⊢
  obtain ⟨n, hn⟩ : ∃ n, n = C.length := ⟨_, rfl⟩
  have HN := hidep hn
  rw [<- hn] at hcc HCK ⊢
  unfold TabV.v at HCK ⊢
  clear hT hok hC hE hn hR hL
  go_enter Tryz.func30, Tryz.ntmps30
  go_upto_region 1 with (fail)
  obtain ⟨Bt, hBt⟩ : ∃ B, B = w.heap.size := ⟨_, rfl⟩
  refine zq9 (fun X => TbX w V Bt X) ⟨(Below.refl _ _).alloc (Nat.le_refl _) _, by rw [hBt]; exact heap_alloc_new _ _⟩ ?_
  intro X hX
  rw [<- hBt]
  have HX := hidep hX
  obtain ⟨q0, q1, q2, q3, q4, q5, q6⟩ := tab7 hX
  clear hX hBt
  by_cases hE0 : E = 0
  case neg =>
    have hne : (E != 0) = true := by simp [hE0]
    have HF := hidep (HAZ.out.trans (if_pos hE0))
    clear hE0
    go_wp2_with (go_at_call 66; refine (HCK.out _ HX.out.1).mono ?_; rintro e w1 ⟨rfl, hb1⟩)
    go_ret2
    exact ⟨_, by rw [HF.out]; rfl, by rw [HF.out]; exact SymsAt.nil _, HX.out.1.trans (hb1.mono HX.out.1.size)⟩
  have hne : (E != 0) = false := by simp [hE0]
  have hz := HE.out
  rw [hE0] at hz
  have HVZ := hidep (zq7e hz.symm)
  have HA2 := hidep (HAZ.out.trans (if_neg (fun h => h hE0)))
  clear hE0 hz
  go_upto_region 4 with (go_at_call 66; refine (HCK.out _ HX.out.1).mono ?_; rintro e w1 ⟨rfl, hb1⟩)
  have hX1 := HX.out.below hb1
  have HX1 := hidep hX1
  obtain ⟨q0, q1, q2, q3, q4, q5, q6⟩ := tab7 hX1
  clear hX1 hb1
  have HTX := hidep (fun (X4 : World) (B : Nat) (h4 : Below w1.heap.size w1 X4) (hr : X4.heap[B]? = some (RdBox V (.slice ca n cc))) => texts_any V T (.slice ca C.length cc) C B 2 X4 ((HT.out.1.below HX1.out.1).below (h4.mono (Nat.le_refl _))) HT.out.2.1 HVZ.out.1 (by rw [<- HN.out]; exact hr) ((HT.out.2.2.below HX1.out.1).below h4) HVZ.out.2 (by omega))
  rw [<- HLL.out] at HTX
  go_upto_region 5 with (go_at_call 67; refine (HTX.out _ _ ((Below.refl _ _).alloc (Nat.le_refl _) _) (heap_alloc_new _ _)).mono ?_; rintro e w5 ⟨v5, rfl, hs5, hb5⟩; obtain ⟨a5, c5, rfl, -, -⟩ := hs5.form)
  have hb5' : Below w.heap.size w w5 := (HX1.out.1.alloc HX1.out.1.size _).trans (hb5.mono (by rw [World.size_alloc]; have := HX1.out.1.size; omega))
  have HB5 := hidep hb5'
  have HS5 := hidep hs5
  clear hb5 hb5' HTX q0 q1 q2 q3 q4 q5 q6
  by_cases hl0 : L.length = 0
  · have HF := hidep (HA2.out.trans (if_pos hl0))
    have hle : ((L.length : Int) == 0) = true := by simp [hl0]
    clear hs5
    obtain ⟨ln, hln⟩ : ∃ x, x = L.length := ⟨_, rfl⟩
    rw [<- hln] at hle HS5 ⊢
    clear hln hl0
    go_wp2
    go_ret2
    exact ⟨_, by rw [HF.out]; rfl, by rw [HF.out]; exact SymsAt.nil _, HB5.out⟩
  · have HA3 := hidep (HA2.out.trans (if_neg hl0))
    have hle : ((L.length : Int) == 0) = false := by rw [beq_eq_false_iff_ne]; omega
    by_cases hl1 : L.length = 1
    · have HF := hidep (HA3.out.trans (if_pos hl1))
      have hle1 : ((L.length : Int) == 1) = true := by simp [hl1]
      obtain ⟨b, off, u, rfl, hb, hc, hu⟩ := hs5.at (k := 0) (by omega)
      obtain ⟨ua, uc, rfl, -, -⟩ := hu.form
      have HU := hidep (show SymsAt w5 (.slice ua L[0].length uc) (L.getD 0 []) from by rw [zq45 L [] (by omega)]; exact hu)
      obtain ⟨ul, hul⟩ : ∃ x, x = L[0].length := ⟨_, rfl⟩
      rw [<- hul] at hc HU
      rw [Nat.add_zero] at hc
      have hlp : (0 : Int) < (L.length : Int) := by omega
      clear hs5 hu hul
      obtain ⟨ln, hln⟩ : ∃ x, x = L.length := ⟨_, rfl⟩
      rw [<- hln] at hle hle1 hlp HS5 ⊢
      clear hln hl0 hl1
      go_wp2
      go_ret2
      exact ⟨_, by rw [HF.out]; rfl, by rw [HF.out]; exact HU.out, HB5.out⟩
    · have HF := hidep (HA3.out.trans (if_neg hl1))
      have hle1 : ((L.length : Int) == 1) = false := by rw [beq_eq_false_iff_ne]; omega
      clear hs5
      obtain ⟨ln, hln⟩ : ∃ x, x = L.length := ⟨_, rfl⟩
      rw [<- hln] at hle hle1 HS5 ⊢
      clear hln hl0 hl1
      go_wp2
      go_ret2
      exact ⟨_, by rw [HF.out]; rfl, by rw [HF.out]; exact SymsAt.nil _, HB5.out⟩
end Go.Proofs.YtcfjepcflanjbaaGreat
/- Plain: the tables of the examples, and what is read with them. -/
namespace Go.Proofs.YtcfjepcflanjbaaGreat
open Go.RowKit Go.Lab Go.Shelf
set_option maxRecDepth 100000
def lttB (i : Nat) : ByteArray := ⟨#[UInt8.ofNat (97 + i)]⟩
def zq21 : List RuleZ := (List.range 26).map fun i => ⟨lttB i, 0, [((1 + i : Nat) : Int)]⟩
def tAn : ByteArray := ⟨#[97, 110]⟩
def tN : ByteArray := ⟨#[110]⟩
def tDot : ByteArray := ⟨#[46]⟩
def zq6f : List RuleZ := [⟨tAn, 0, [30]⟩, ⟨tAn, 1, [31]⟩, ⟨tN, 3, [32]⟩, ⟨tDot, 0, [33]⟩]
def zq1c : TabZ where
  l0 := zq21 ++ zq6f
  l1 := zq21
  dg := [41, 42, 43, 44, 45, 46, 47, 48, 49, 50]
  cp := [60]
  nm := [61]
  en := [62]
  sw := [63]
theorem zqd3 : zq8 zq1c = 0 := by decide +kernel
theorem sm_read1 : readZ zq1c [60, 30] = ([⟨0, 65⟩, ⟨0, 110⟩], 0) := by decide +kernel
theorem sm_read2 : readZ zq1c [31] = ([⟨0, 97⟩, ⟨0, 110⟩], 0) := by decide +kernel
theorem sm_read3 : readZ zq1c [31, 33] = ([⟨0, 97⟩, ⟨0, 110⟩, ⟨0, 46⟩], 0) := by decide +kernel
theorem sm_read4 : readZ zq1c [2, 1, 32] = ([⟨0, 98⟩, ⟨0, 97⟩, ⟨0, 110⟩], 0) := by decide +kernel
theorem sm_read5 : readZ zq1c [61, 48, 62, 1] = ([⟨0, 55⟩, ⟨0, 97⟩], 0) := by decide +kernel
theorem sm_read6 : readZ zq1c [63, 1] = ([⟨1, 97⟩], 0) := by decide +kernel
theorem sm_read7 : (readZ zq1c [31, 20]).2 = 2 := by decide +kernel
theorem sm_all : allZ zq1c [61, 48, 1] 3 = ([], 0) := by decide +kernel
theorem sm_good : goodZ zq1c [61, 48, 1] = 2 := by decide +kernel
theorem sm_is1 : isZ zq1c [⟨0, 65⟩, ⟨0, 110⟩] [60, 30] = true := by decide +kernel
theorem sm_is2 : isZ zq1c [⟨0, 97⟩, ⟨0, 110⟩] [31] = true := by decide +kernel
theorem sm_is3 : isZ zq1c [⟨0, 97⟩, ⟨0, 110⟩, ⟨0, 46⟩] [31, 33] = true := by decide +kernel
theorem sm_is4 : isZ zq1c [⟨0, 98⟩, ⟨0, 97⟩, ⟨0, 110⟩] [2, 1, 32] = true := by decide +kernel
theorem sm_is5 : isZ zq1c [⟨0, 55⟩, ⟨0, 97⟩] [61, 48, 62, 1] = true := by decide +kernel
theorem sm_is6 : isZ zq1c [⟨1, 97⟩] [63, 1] = true := by decide +kernel
end Go.Proofs.YtcfjepcflanjbaaGreat
