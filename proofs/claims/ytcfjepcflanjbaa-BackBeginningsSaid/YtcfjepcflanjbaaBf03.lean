/- Contracts: characters and cells (packages table and dactylref06). -/
import Derived.Shelf.Abstract
import Derived.Test.YtcfjepcflanjbaaBf02
namespace Go.Proofs.Ytcfjepcflanjbaa
open Go.RowKit Go.Lab Go.Shelf
theorem byts_len (s : ByteArray) : (byts s).length = s.size := by unfold byts; rw [List.length_map]; rfl
theorem byts_rng (s : ByteArray) : ∀ x ∈ byts s, 0 ≤ x ∧ x < 256 := by
  intro x hx
  unfold byts at hx
  obtain ⟨b, _, rfl⟩ := List.mem_map.1 hx
  have := b.toNat_lt
  omega
theorem byts_at (s : ByteArray) (j : Nat) (h : j < s.size) (h2 : j < (byts s).length) : ((s[j]'h).toNat : Int) = (byts s)[j] := by
  simp only [byts, List.getElem_map]
  rfl
def lowZ (c : Int) : Int := if capB c = true then c + 32 else c
def letB (c : Int) : Bool := lowB c || capB c
set_option maxHeartbeats 400000 in
theorem digit_any (c : Int) (w : World) : Calls Try.prog 58 #[.int .u8 c] w fun e w' => e = .returned (.bool (digB c)) ∧ w' = w := by
  go_enter Try.func58, Try.ntmps58
  go_wp2
  all_goals (go_ret; exact ⟨ret_val (by simp [digB, *]; try omega), rfl⟩)
set_option maxHeartbeats 400000 in
theorem digitR_any (c : Int) (w : World) : Calls Try.prog 39 #[.int .u8 c] w fun e w' => e = .returned (.bool (digB c)) ∧ w' = w := by
  go_enter Try.func39, Try.ntmps39
  go_wp2
  all_goals (go_ret; exact ⟨ret_val (by simp [digB, *]; try omega), rfl⟩)
set_option maxHeartbeats 400000 in
theorem charT_any (c : Int) (w : World) : Calls Try.prog 56 #[.int .u8 c] w fun e w' => e = .returned (.bool (charB c)) ∧ w' = w := by
  go_enter Try.func56, Try.ntmps56
  go_wp2
  all_goals (go_ret; exact ⟨ret_val (by simp [charB, *]; try omega), rfl⟩)
set_option maxHeartbeats 800000 in
theorem letterT_any (c : Int) (w : World) (hc : 0 ≤ c ∧ c < 256) : Calls Try.prog 63 #[.int .u8 c] w fun e w' => e = .returned (.tuple #[.int .u8 (lowZ c), .bool (letB c), .bool (capB c)]) ∧ w' = w := by
  by_cases h1 : 97 ≤ c ∧ c ≤ 122
  · have hL : lowZ c = c ∧ letB c = true ∧ capB c = false := by
      simp [lowZ, letB, lowB, capB]; omega
    have HL := hidep hL
    obtain ⟨h2, h3⟩ := h1
    clear hL
    go_enter Try.func63, Try.ntmps63
    go_wp2
    go_ret3
    exact ⟨by rw [HL.out.1, HL.out.2.1, HL.out.2.2]; rfl, rfl⟩
  · by_cases h2 : 65 ≤ c ∧ c ≤ 90
    · have hL : lowZ c = c + 32 ∧ letB c = true ∧ capB c = true := by
        simp [lowZ, letB, lowB, capB]; omega
      have HL := hidep hL
      obtain ⟨h3, h4⟩ := h2
      have h5 : ¬ 97 ≤ c := by omega
      have hw1 : IntKind.u8.wrap (c - 65) = c - 65 := IntWalk.u8_in _ (by omega)
      have hw2 : IntKind.u8.wrap (c - 65 + 97) = c + 32 := by rw [show c - 65 + 97 = c + 32 from by omega]; exact IntWalk.u8_in _ (by omega)
      clear hL h1
      go_enter Try.func63, Try.ntmps63
      go_wp2
      go_ret3
      exact ⟨by rw [HL.out.1, HL.out.2.1, HL.out.2.2]; rfl, rfl⟩
    · have hL : lowZ c = c ∧ letB c = false ∧ capB c = false := by
        simp [lowZ, letB, lowB, capB]; omega
      have HL := hidep hL
      clear hL
      go_enter Try.func63, Try.ntmps63
      go_wp2
      all_goals first
        | (exfalso; omega)
        | (go_ret3; exact ⟨by rw [HL.out.1, HL.out.2.1, HL.out.2.2]; rfl, rfl⟩)
set_option maxHeartbeats 800000 in
theorem letterR_any (c : Int) (w : World) (hc : 0 ≤ c ∧ c < 256) : Calls Try.prog 40 #[.int .u8 c] w fun e w' => e = .returned (.tuple #[.int .u8 (lowZ c), .bool (letB c), .bool (capB c)]) ∧ w' = w := by
  by_cases h1 : 97 ≤ c ∧ c ≤ 122
  · have hL : lowZ c = c ∧ letB c = true ∧ capB c = false := by
      simp [lowZ, letB, lowB, capB]; omega
    have HL := hidep hL
    obtain ⟨h2, h3⟩ := h1
    clear hL
    go_enter Try.func40, Try.ntmps40
    go_wp2
    go_ret3
    exact ⟨by rw [HL.out.1, HL.out.2.1, HL.out.2.2]; rfl, rfl⟩
  · by_cases h2 : 65 ≤ c ∧ c ≤ 90
    · have hL : lowZ c = c + 32 ∧ letB c = true ∧ capB c = true := by
        simp [lowZ, letB, lowB, capB]; omega
      have HL := hidep hL
      obtain ⟨h3, h4⟩ := h2
      have h5 : ¬ 97 ≤ c := by omega
      have hw2 : IntKind.u8.wrap (c + 32) = c + 32 := IntWalk.u8_in _ (by omega)
      clear hL h1
      go_enter Try.func40, Try.ntmps40
      go_wp2
      go_ret3
      exact ⟨by rw [HL.out.1, HL.out.2.1, HL.out.2.2]; rfl, rfl⟩
    · have hL : lowZ c = c ∧ letB c = false ∧ capB c = false := by
        simp [lowZ, letB, lowB, capB]; omega
      have HL := hidep hL
      clear hL
      go_enter Try.func40, Try.ntmps40
      go_wp2
      all_goals first
        | (exfalso; omega)
        | (go_ret3; exact ⟨by rw [HL.out.1, HL.out.2.1, HL.out.2.2]; rfl, rfl⟩)
theorem isLetter_any (c : Int) (w : World) (hc : 0 ≤ c ∧ c < 256) : Calls Try.prog 57 #[.int .u8 c] w fun e w' => e = .returned (.bool (letB c)) ∧ w' = w := by
  have H := hidep (fun W => letterT_any c W hc)
  go_enter Try.func57, Try.ntmps57
  go_wp2_with (go_at_call 63; refine (H.out _).mono ?_; rintro e w1 ⟨rfl, rfl⟩)
  go_ret
  exact ⟨rfl, rfl⟩
theorem isR_any (c : Int) (w : World) (hc : 0 ≤ c ∧ c < 256) : Calls Try.prog 79 #[.int .u8 c] w fun e w' => e = .returned (.bool (letB c)) ∧ w' = w := by
  have H := hidep (fun W => letterR_any c W hc)
  go_enter Try.func79, Try.ntmps79
  go_wp2_with (go_at_call 40; refine (H.out _).mono ?_; rintro e w1 ⟨rfl, rfl⟩)
  go_ret
  exact ⟨rfl, rfl⟩
set_option maxHeartbeats 400000 in
theorem cells1_any (c : Int) (w : World) : Calls Try.prog 53 #[.int .u8 c] w fun e w' => e = .returned (.bool (!cellB c)) ∧ w' = w := by
  go_enter Try.func53, Try.ntmps53
  go_wp2
  all_goals
    go_ret
    refine ⟨ret_val (congrArg Value.bool ?_), rfl⟩
    rw [Bool.eq_iff_iff]
    simp [cellB]
    try omega
theorem takeAll {α : Type} (p : α → Bool) (l : List α) (k : Nat) (h : k < l.length) (hg : (l.take k).all p = true) : (l.take (k + 1)).all p = p l[k] := by
  rw [List.take_succ_eq_append_getElem h, List.all_append, hg]
  simp
theorem allFalse {α : Type} (p : α → Bool) (l : List α) (k : Nat) (h : k < l.length) (hp : p l[k] = false) : l.all p = false := by
  rw [List.all_eq_false]
  exact ⟨l[k], List.getElem_mem h, by simp [hp]⟩
set_option maxHeartbeats 1000000 in
theorem word_any (s : ByteArray) (w : World) (hs : s.size ≤ 100000) : Calls Try.prog 55 #[.string s] w fun e w' => e = .returned (.bool (lowsB s)) ∧ w' = w := by
  go_enter Try.func55, Try.ntmps55
  go_upto_region 2 with (fail)
  go_loopw [6] (fun iv wr => ∃ i : Nat, i ≤ s.size ∧ iv = .int .i64 (i : Nat) ∧ Hid (((byts s).take i).all lowB = true) ∧ wr = w) (fun iv _ => s.size - (intOf iv).toNat)
  case atStart => exact ⟨0, Nat.zero_le _, rfl, hidep rfl, rfl⟩
  case round =>
    obtain ⟨i, hi, rfl, hg, rfl⟩ := hrel
    by_cases his : i < s.size
    · have hisi : (i : Int) < (s.size : Int) := by omega
      have hpos : (0 : Int) ≤ (i : Int) := by omega
      have hil : i < (byts s).length := by rw [byts_len]; exact his
      have hat := byts_at s i his hil
      obtain ⟨y, hy⟩ : ∃ y, y = (byts s)[i] := ⟨_, rfl⟩
      have HT := hidep (takeAll lowB (byts s) i hil hg.out)
      have HF := hidep (allFalse lowB (byts s) i hil)
      rw [← hy] at hat HT HF
      clear hy
      by_cases hl : 97 ≤ y
      · by_cases hu : y ≤ 122
        · have hyb : lowB y = true := by simp [lowB, hl, hu]
          have HG := hidep (HT.out.trans hyb)
          clear hyb
          go_wp2
          go_roundw
          case rel => exact ⟨i + 1, by omega, by go_num, HG, trivial⟩
          case measure => simp [intOf]; omega
        · have hyb : lowB y = false := by simp [lowB, hu]
          have HG := hidep (HF.out hyb)
          clear hyb
          go_wp2
          go_ret
          exact ⟨by unfold lowsB; rw [HG.out]; rfl, rfl⟩
      · have hyb : lowB y = false := by simp [lowB, hl]
        have HG := hidep (HF.out hyb)
        clear hyb
        go_wp2
        go_ret
        exact ⟨by unfold lowsB; rw [HG.out]; rfl, rfl⟩
    · have hisi : ¬ (i : Int) < (s.size : Int) := by omega
      have hin : i = s.size := by omega
      have hA := hg.out
      rw [List.take_of_length_le (by rw [byts_len]; omega)] at hA
      have HA := hidep hA
      clear hA
      go_wp2
      go_ret
      exact ⟨by unfold lowsB; rw [HA.out]; rfl, rfl⟩
set_option maxHeartbeats 1000000 in
theorem smallR_any (s : ByteArray) (w : World) (hs : s.size ≤ 100000) : Calls Try.prog 66 #[.string s] w fun e w' => e = .returned (.bool (lowsB s)) ∧ w' = w := by
  go_enter Try.func66, Try.ntmps66
  go_upto_region 2 with (fail)
  go_loopw [3] (fun iv wr => ∃ i : Nat, i ≤ s.size ∧ iv = .int .i64 (i : Nat) ∧ Hid (((byts s).take i).all lowB = true) ∧ wr = w) (fun iv _ => s.size - (intOf iv).toNat)
  case atStart => exact ⟨0, Nat.zero_le _, rfl, hidep rfl, rfl⟩
  case round =>
    obtain ⟨i, hi, rfl, hg, rfl⟩ := hrel
    by_cases his : i < s.size
    · have hisi : (i : Int) < (s.size : Int) := by omega
      have hpos : (0 : Int) ≤ (i : Int) := by omega
      have hil : i < (byts s).length := by rw [byts_len]; exact his
      have hat := byts_at s i his hil
      obtain ⟨y, hy⟩ : ∃ y, y = (byts s)[i] := ⟨_, rfl⟩
      have HT := hidep (takeAll lowB (byts s) i hil hg.out)
      have HF := hidep (allFalse lowB (byts s) i hil)
      rw [← hy] at hat HT HF
      clear hy
      by_cases hl : 97 ≤ y
      · by_cases hu : y ≤ 122
        · have hyb : lowB y = true := by simp [lowB, hl, hu]
          have HG := hidep (HT.out.trans hyb)
          clear hyb
          go_wp2
          go_roundw
          case rel => exact ⟨i + 1, by omega, by go_num, HG, trivial⟩
          case measure => simp [intOf]; omega
        · have hyb : lowB y = false := by simp [lowB, hu]
          have HG := hidep (HF.out hyb)
          clear hyb
          go_wp2
          go_ret
          exact ⟨by unfold lowsB; rw [HG.out]; rfl, rfl⟩
      · have hyb : lowB y = false := by simp [lowB, hl]
        have HG := hidep (HF.out hyb)
        clear hyb
        go_wp2
        go_ret
        exact ⟨by unfold lowsB; rw [HG.out]; rfl, rfl⟩
    · have hisi : ¬ (i : Int) < (s.size : Int) := by omega
      have hin : i = s.size := by omega
      have hA := hg.out
      rw [List.take_of_length_le (by rw [byts_len]; omega)] at hA
      have HA := hidep hA
      clear hA
      go_wp2
      go_ret
      exact ⟨by unfold lowsB; rw [HA.out]; rfl, rfl⟩
set_option maxHeartbeats 1000000 in
theorem indexFuncB_any (f : FuncId) (p : Int → Bool) (ef : ∀ args w, (callFunc f args).run Try.prog w = .ok (.enter f args) w) (hf : ∀ x W, 0 ≤ x → x < 256 → Calls Try.prog f #[.int .u8 x] W fun e w' => e = .returned (.bool (!p x)) ∧ w' = W)
    (v : Value) (l : List Int) (w : World) (h : BysAt w v l) :
    Calls Try.prog 77 #[v, .func (.func f) #[] #[]] w fun e w' => (∃ k : Int, e = .returned (.int .i64 k) ∧ Hid (decide (0 ≤ k) = !l.all p)) ∧ w' = w := by
  obtain ⟨a, cap, rfl, h2, h3⟩ := h.1.form
  unfold maxLen at h3
  go_enter Try.func77, Try.ntmps77
  go_wp2
  go_loopw [8] (fun i wr => ∃ k : Nat, k ≤ l.length ∧ i = .int .i64 k ∧ Hid ((l.take k).all p = true) ∧ wr = w) (fun i _ => l.length - (intOf i).toNat)
  case atStart => exact ⟨0, Nat.zero_le _, rfl, hidep rfl, rfl⟩
  case round =>
    obtain ⟨k, hk, rfl, hg, rfl⟩ := hrel
    by_cases hlt : k < l.length
    · obtain ⟨b, off, rfl, hb, hc, hx1, hx2⟩ := h.at hlt
      have HT := hidep (takeAll p l k hlt hg.out)
      have HF := hidep (allFalse p l k hlt)
      obtain ⟨y, hy⟩ : ∃ y, y = l[k] := ⟨_, rfl⟩
      rw [← hy] at hc hx1 hx2 HT HF
      have HC := hidep (fun W => hf y W hx1 hx2)
      clear hy h
      cases hp : p y with
      | true =>
        rw [hp] at HC HT
        clear hp
        go_wp2_with (go_at_fn f; refine (HC.out _).mono ?_; rintro e w1 ⟨rfl, rfl⟩)
        go_roundw
        case rel => exact ⟨k + 1, by omega, by go_num, HT, trivial⟩
        case measure => simp [intOf]; omega
      | false =>
        rw [hp] at HC
        have HF := hidep (HF.out hp)
        clear hp
        go_wp2_with (go_at_fn f; refine (HC.out _).mono ?_; rintro e w1 ⟨rfl, rfl⟩)
        go_ret
        exact ⟨⟨_, rfl, hidep (by rw [HF.out]; simp)⟩, rfl⟩
    · go_wp2
      go_ret
      have hkl : k = l.length := by omega
      subst hkl
      have := hg.out
      rw [List.take_length] at this
      exact ⟨⟨_, rfl, hidep (by rw [this]; rfl)⟩, rfl⟩
end Go.Proofs.Ytcfjepcflanjbaa
/- Contracts of the small helpers of the reference packages: numbers out of lists, valid characters, equal texts. -/
namespace Go.Proofs.Ytcfjepcflanjbaa
open Go.RowKit Go.Lab
def aroundZ (n most : Int) : Int := if most < 1 then 0 else (if n < 0 then -(n + 1) else n) % most
theorem aroundZ_rng (n most : Int) (h : 1 ≤ most) : 0 ≤ aroundZ n most ∧ aroundZ n most < most := by
  unfold aroundZ
  rw [if_neg (by omega)]
  exact ⟨Int.emod_nonneg _ (by omega), Int.emod_lt_of_pos _ (by omega)⟩
theorem aroundZ_low {n most : Int} (h : most < 1) : (0 : Int) = aroundZ n most := (if_pos h).symm
theorem aroundZ_neg {n most : Int} (h : 1 ≤ most) (hn : n < 0) : -((n + 1).tmod most) = aroundZ n most := by
  unfold aroundZ
  rw [if_neg (by omega), if_pos hn, ← Int.neg_tmod, Int.tmod_eq_emod_of_nonneg (by omega)]
theorem aroundZ_pos {n most : Int} (h : 1 ≤ most) (hn : 0 ≤ n) : n % most = aroundZ n most := by
  unfold aroundZ
  rw [if_neg (by omega), if_neg (by omega)]
set_option maxHeartbeats 400000 in
theorem around_any (n most : Int) (w : World) (h1 : -9223372036854775808 ≤ n) (h2 : n ≤ 9223372036854775807) :
    Calls Try.prog 11 #[.int .i64 n, .int .i64 most] w fun e w' => e = .returned (.int .i64 (aroundZ n most)) ∧ w = w' := by
  go_enter Try.func11, Try.ntmps11
  go_wp2
  all_goals go_ret
  · exact ⟨ret_val (congrArg _ (aroundZ_low ‹_›)), rfl⟩
  · exact ⟨ret_val (congrArg _ (aroundZ_neg ‹_› ‹_›)), rfl⟩
  · exact ⟨ret_val (congrArg _ (aroundZ_low ‹_›)), rfl⟩
  · exact ⟨ret_val (congrArg _ (aroundZ_pos ‹_› ‹_›)), rfl⟩
def atZ (l : List Int) (i most : Int) : Int := if i < 0 ∨ (l.length : Int) ≤ i then 0 else aroundZ (l.getD i.toNat 0) most
theorem atZ_in {l : List Int} {k : Nat} {most : Int} (h : k < l.length) : aroundZ l[k] most = atZ l (k : Int) most := by
  unfold atZ
  rw [if_neg (by omega)]
  simp [h]
theorem atZ_out {l : List Int} {i most : Int} (h : i < 0 ∨ (l.length : Int) ≤ i) : (0 : Int) = atZ l i most := (if_pos h).symm
theorem atZ_rng (l : List Int) (i most : Int) (h : 1 ≤ most) : 0 ≤ atZ l i most ∧ atZ l i most < most := by
  unfold atZ
  split
  · omega
  · exact aroundZ_rng _ _ h
set_option maxHeartbeats 400000 in
theorem at_any (v : Value) (l : List Int) (i most : Int) (w : World) (h : IntsAt w v l) :
    Calls Try.prog 20 #[v, .int .i64 i, .int .i64 most] w fun e w' => e = .returned (.int .i64 (atZ l i most)) ∧ w = w' := by
  obtain ⟨a, cap, rfl, hc, hm⟩ := h.1.form
  by_cases hin : 0 ≤ i ∧ i < (l.length : Int)
  · obtain ⟨k, rfl⟩ : ∃ k : Nat, i = (k : Int) := ⟨i.toNat, by omega⟩
    have hk : k < l.length := by omega
    obtain ⟨b, off, rfl, hb, hcell⟩ := h.1.at (by omega)
    have hx := hcell k _ (intsC_get l k hk)
    have hr := h.2 l[k] (List.getElem_mem hk)
    obtain ⟨hr1, hr2⟩ := hr
    have HK : Hid (∀ most, aroundZ l[k] most = atZ l (k : Int) most) := hidep (fun _ => atZ_in hk)
    clear hin hcell h
    generalize l[k] = x at *
    go_enter Try.func20, Try.ntmps20
    go_wp2_with (go_at_call 11; refine (around_any _ _ _ (by omega) (by omega)).mono ?_; rintro e w' ⟨rfl, rfl⟩)
    go_ret
    exact ⟨ret_val (congrArg _ (HK.out _)), rfl⟩
  · have hz := atZ_out (l := l) (i := i) (most := most) (by omega)
    have HZ := hidep hz
    clear hz h
    have h1 : i < 0 ∨ (0 ≤ i ∧ (l.length : Int) ≤ i) := by omega
    rcases h1 with h1 | ⟨h0, h1⟩
    all_goals
      go_enter Try.func20, Try.ntmps20
      go_wp2
      go_ret
      exact ⟨ret_val (congrArg _ HZ.out), rfl⟩
def writtenB (c : Int) : Bool := decide (32 ≤ c) && decide (c ≤ 126)
def goodB (s : Sym) : Bool := decide (0 ≤ s.lang) && decide (s.lang ≤ 1) && writtenB s.c
theorem all_take_succ {α : Type} (p : α → Bool) (l : List α) (k : Nat) (h : k < l.length) : (l.take (k + 1)).all p = ((l.take k).all p && p l[k]) := by
  rw [List.take_succ_eq_append_getElem h, List.all_append]; simp only [List.all_cons, List.all_nil, Bool.and_true]
theorem all_false_at {α : Type} (p : α → Bool) (l : List α) (k : Nat) (h : k < l.length) (hp : p l[k] = false) : l.all p = false := by
  rw [List.all_eq_false]
  exact ⟨l[k], List.getElem_mem h, by simp [hp]⟩
end Go.Proofs.Ytcfjepcflanjbaa
/- Contracts: a rule is right, on both sides. -/
namespace Go.Proofs.Ytcfjepcflanjbaa
open Go.RowKit Go.Lab Go.Shelf
set_option maxHeartbeats 400000 in
theorem containsFuncB_any (f : FuncId) (p : Int → Bool) (ef : ∀ args w, (callFunc f args).run Try.prog w = .ok (.enter f args) w) (hf : ∀ x W, 0 ≤ x → x < 256 → Calls Try.prog f #[.int .u8 x] W fun e w' => e = .returned (.bool (!p x)) ∧ w' = W)
    (v : Value) (l : List Int) (w : World) (h : BysAt w v l) :
    Calls Try.prog 52 #[v, .func (.func f) #[] #[]] w fun e w' => e = .returned (.bool (!l.all p)) ∧ w' = w := by
  have HI := hidep (indexFuncB_any f p ef hf v l w h)
  clear h hf
  go_enter Try.func52, Try.ntmps52
  go_wp2_with fail
  refine HI.out.mono ?_
  rintro e w1 ⟨⟨k, rfl, hk⟩, rfl⟩
  go_wp2
  go_ret
  exact ⟨ret_val (congrArg Value.bool hk.out), rfl⟩
theorem cellsT_any (v : Value) (l : List Int) (w : World) (h : BysAt w v l) : Calls Try.prog 29 #[v] w fun e w' => e = .returned (.bool (l.all cellB)) ∧ w' = w := by
  have HI := hidep (containsFuncB_any 53 cellB (fun args w => by kernel_rfl) (fun x W _ _ => cells1_any x W) v l w h)
  clear h
  go_enter Try.func29, Try.ntmps29
  go_wp2_with fail
  refine HI.out.mono ?_
  rintro e w1 ⟨rfl, rfl⟩
  go_wp2
  go_ret
  exact ⟨ret_val (congrArg Value.bool (by simp)), rfl⟩
set_option maxHeartbeats 400000 in
theorem indicator_any (v : Value) (l : List Int) (w : World) (h : BysAt w v l) : Calls Try.prog 30 #[v] w fun e w' => e = .returned (.bool (cellsB l 1 4)) ∧ w' = w := by
  have HI := hidep (cellsT_any v l w h)
  obtain ⟨a, cap, rfl, h2, h3⟩ := h.1.form
  unfold maxLen at h3
  clear h
  obtain ⟨n, hn⟩ : ∃ n, n = l.length := ⟨_, rfl⟩
  have HT := hidep (show cellsB l 1 4 = (l.all cellB && (decide (1 ≤ n) && decide (n ≤ 4))) from by rw [hn]; rfl)
  rw [← hn] at HI h2 ⊢
  clear hn
  generalize l.all cellB = ab at *
  go_enter Try.func30, Try.ntmps30
  by_cases g1 : 1 ≤ n
  · have g1i : (n : Int) ≥ 1 := by omega
    by_cases g2 : n ≤ 4
    · have g2i : (n : Int) ≤ 4 := by omega
      have HT2 := hidep (HT.out.trans (by rw [decide_eq_true g1, decide_eq_true g2, Bool.and_self, Bool.and_true]))
      go_wp2_with (go_at_call 29; refine HI.out.mono ?_; rintro e w1 ⟨rfl, rfl⟩)
      go_ret
      exact ⟨by rw [HT2.out]; rfl, rfl⟩
    · have g2i : ¬ (n : Int) ≤ 4 := by omega
      have HT2 := hidep (HT.out.trans (by rw [decide_eq_true g1, decide_eq_false g2, Bool.and_false, Bool.and_false]))
      go_wp2
      go_ret
      exact ⟨by rw [HT2.out]; rfl, rfl⟩
  · have g1i : ¬ (n : Int) ≥ 1 := by omega
    have HT2 := hidep (HT.out.trans (by rw [decide_eq_false g1, Bool.false_and, Bool.and_false]))
    go_wp2
    go_ret
    exact ⟨by rw [HT2.out]; rfl, rfl⟩
end Go.Proofs.Ytcfjepcflanjbaa
