/- Contracts: all rules are right (package table); a letter has a rule of its own (dactylref06). -/
import Derived.Test.YtcfjepcflanjbaaGreatBr04
namespace Go.Proofs.YtcfjepcflanjbaaGreat
open Go.RowKit Go.Lab Go.Shelf
def zq3e (r : RuleZ) : Prop := r.text.size <= 100000 /\ -9223372036854775808 <= r.wh /\ r.wh <= 9223372036854775807
theorem zq4e {w : World} {a : Option Addr} {c : Nat} {l : List RuleZ} (h : RulesAt w (.slice a l.length c) l) {k : Nat} (hk : k < l.length) :
    ∃ b off ua un uc, a = some ⟨b, off, none⟩ /\ b < w.heap.size /\ w.cell? ⟨b, off + k * 3, none⟩ = some (.string l[k].text) /\ w.cell? ⟨b, off + k * 3 + 1, none⟩ = some (.int .i64 l[k].wh) /\ w.cell? ⟨b, off + k * 3 + 2, none⟩ = some (.slice ua un uc) /\ BysAt w (.slice ua un uc) l[k].cells := by
  obtain ⟨b, off, u, e, hb, hr, hu⟩ := h.at hk
  obtain ⟨ua, uc, rfl, _, _⟩ := hu.1.form
  exact ⟨b, off, ua, _, uc, e, hb, hr 0 _ rfl, hr 1 _ rfl, hr 2 _ rfl, hu⟩
set_option maxHeartbeats 800000 in
theorem valid1_any (r : RuleZ) (ua : Option Addr) (un uc : Nat) (w : World) (hu : BysAt w (.slice ua un uc) r.cells) (hs : r.text.size <= 100000) :
    Calls Tryz.prog 63 #[.agg #[.string r.text, .int .i64 r.wh, .slice ua un uc]] w fun e w' => e = .returned (.bool (!zqf r)) /\ Below w.heap.size w w' := by
  have hbx := (Below.refl w.heap.size w).alloc (Nat.le_refl _) (.cells #[.string r.text, .int .i64 r.wh, .slice ua un uc] 59)
  have H := hidep (rightT_any r (.slice ua un uc) _ (hu.below hbx) hs)
  have HBX := hidep hbx
  clear hu hs hbx
  obtain ⟨s, wh, cl⟩ := r
  simp only at H HBX ⊢
  generalize zqf ⟨s, wh, cl⟩ = rb at *
  go_enter Tryz.func63, Tryz.ntmps63
  go_wp2_with (go_at_call 64; refine H.out.mono ?_; rintro e w1 ⟨rfl, hb1⟩)
  go_ret
  exact ⟨rfl, HBX.out.trans (hb1.mono HBX.out.size)⟩
set_option maxHeartbeats 1000000 in
theorem indexFuncR_any (v : Value) (l : List RuleZ) (w : World) (h : RulesAt w v l) (hl : ∀ r ∈ l, zq3e r) :
    Calls Tryz.prog 100 #[v, .func (.func 63) #[] #[]] w fun e w' => (∃ k : Int, e = .returned (.int .i64 k) /\ Hid (decide (0 <= k) = !l.all zqf)) /\ Below w.heap.size w w' := by
  obtain ⟨a, cap, rfl, h2, h3⟩ := h.form
  unfold maxLen at h3
  go_enter Tryz.func100, Tryz.ntmps100
  go_wp2
  go_loopw [8] (fun i wr => ∃ k : Nat, k <= l.length /\ i = .int .i64 k /\ Hid ((l.take k).all zqf = true) /\ Below w.heap.size w wr) (fun i _ => l.length - (intOf i).toNat)
  case atStart => exact ⟨0, Nat.zero_le _, rfl, hidep rfl, Below.refl _ _⟩
  case round =>
    obtain ⟨k, hk, rfl, hg, hbw⟩ := hrel
    by_cases hlt : k < l.length
    · obtain ⟨b, off, ua, un, uc, rfl, hb, hc0, hc1, hc2, hu⟩ := zq4e (h.below hbw) hlt
      have hm := hl _ (List.getElem_mem hlt)
      have HT := hidep (zq75 zqf l k hlt hg.out)
      have HF := hidep (zq69 zqf l k hlt)
      obtain ⟨y, hy⟩ : ∃ y, y = l[k] := ⟨_, rfl⟩
      rw [<- hy] at hc0 hc1 hu hm HT HF
      have HC := hidep (valid1_any y ua un uc wr hu hm.1)
      clear hy h hu hm hl
      obtain ⟨s, wh, cl⟩ := y
      simp only at hc0 hc1 HC
      cases hp : zqf ⟨s, wh, cl⟩ with
      | true =>
        rw [hp] at HC HT
        clear hp
        go_wp2_with (go_at_call 63; refine HC.out.mono ?_; rintro e w1 ⟨rfl, hb1⟩)
        go_roundw
        case rel => exact ⟨k + 1, by omega, by go_num, HT, hbw.trans (hb1.mono hbw.size)⟩
        case measure => simp [intOf]; omega
      | false =>
        rw [hp] at HC
        have HF := hidep (HF.out hp)
        clear hp
        go_wp2_with (go_at_call 63; refine HC.out.mono ?_; rintro e w1 ⟨rfl, hb1⟩)
        go_ret
        exact ⟨⟨_, rfl, hidep (by rw [HF.out]; simp)⟩, hbw.trans (hb1.mono hbw.size)⟩
    · go_wp2
      go_ret
      have hkl : k = l.length := by omega
      subst hkl
      have := hg.out
      rw [List.take_length] at this
      exact ⟨⟨_, rfl, hidep (by rw [this]; rfl)⟩, hbw⟩
set_option maxHeartbeats 400000 in
theorem containsFuncR_any (v : Value) (l : List RuleZ) (w : World) (h : RulesAt w v l) (hl : ∀ r ∈ l, zq3e r) :
    Calls Tryz.prog 62 #[v, .func (.func 63) #[] #[]] w fun e w' => e = .returned (.bool (!l.all zqf)) /\ Below w.heap.size w w' := by
  have HI := hidep (indexFuncR_any v l w h hl)
  clear h hl
  go_enter Tryz.func62, Tryz.ntmps62
  go_wp2_with fail
  refine HI.out.mono ?_
  rintro e w1 ⟨⟨k, rfl, hk⟩, hb⟩
  go_wp2
  go_ret
  exact ⟨zqb (congrArg Value.bool hk.out), hb⟩
def ownR (c : Int) (r : RuleZ) : Bool := decide (r.wh = 0) && decide (byts r.text = [c])
theorem own_eq (l : List RuleZ) (c : Int) : ownB l c = !l.all (fun r => !ownR c r) := by
  unfold ownB
  induction l with
  | nil => rfl
  | cons a l ih =>
    rw [List.any_cons, List.all_cons, ih]
    unfold ownR
    cases decide (a.wh = 0) && decide (byts a.text = [c]) <;> simp
theorem byts_one {s : ByteArray} (h : s.size = 1) (c : Int) (h2 : 0 < (byts s).length) : (byts s = [c]) ↔ (byts s)[0] = c := by
  have hl : (byts s).length = 1 := by rw [zq1a, h]
  constructor
  · intro e
    simp only [e, List.getElem_cons_zero]
  · intro e
    apply List.ext_getElem
    · rw [hl]; rfl
    · intro i h1 h3
      have hi : i = 0 := by omega
      subst hi
      simpa using e
set_option maxHeartbeats 1000000 in
theorem ownR_any (v : Value) (l : List RuleZ) (c : Int) (w : World) (h : RulesAt w v l) (_hl : ∀ r ∈ l, zq3e r) :
    Calls Tryz.prog 70 #[v, .int .u8 c] w fun e w' => e = .returned (.bool (ownB l c)) /\ w' = w := by
  rw [own_eq]
  obtain ⟨a, cap, rfl, h2, h3⟩ := h.form
  unfold maxLen at h3
  go_enter Tryz.func70, Tryz.ntmps70
  go_upto_region 2 with (fail)
  go_loopw [5] (fun i wr => ∃ k : Nat, k <= l.length /\ i = .int .i64 (k : Nat) /\ Hid ((l.take k).all (fun r => !ownR c r) = true) /\ wr = w) (fun i _ => l.length - (intOf i).toNat)
  case atStart => exact ⟨0, Nat.zero_le _, rfl, hidep rfl, rfl⟩
  case round =>
    obtain ⟨k, hk, rfl, hg, rfl⟩ := hrel
    by_cases hlt : k < l.length
    · obtain ⟨b, off, ua, un, uc, rfl, hb, hc0, hc1, hc2, hu⟩ := zq4e h hlt
      have HT := hidep (zq75 (fun r => !ownR c r) l k hlt hg.out)
      have HF := hidep (zq69 (fun r => !ownR c r) l k hlt)
      obtain ⟨y, hy⟩ : ∃ y, y = l[k] := ⟨_, rfl⟩
      rw [<- hy] at hc0 hc1 HT HF
      clear hy h hu
      obtain ⟨s, wh, cl⟩ := y
      simp only at hc0 hc1
      have hlt1 : (k : Int) < (l.length : Int) := by omega
      have hpos : (0 : Int) <= (k : Int) := by omega
      by_cases h5 : wh = 0
      · have g5 : (wh == 0) = true := by simp [h5]
        by_cases h6 : s.size = 1
        · have g6 : (s.size : Int) = 1 := by omega
          have hs0 : 0 < s.size := by omega
          have hs1 : 0 < (byts s).length := by rw [zq1a]; exact hs0
          have hat := zq40 s 0 hs0 hs1
          have hone := byts_one h6 c hs1
          obtain ⟨y, hy⟩ : ∃ y, y = (byts s)[0] := ⟨_, rfl⟩
          rw [<- hy] at hat hone
          clear hy
          by_cases h7 : y = c
          · have g7 : (y == c) = true := by simp [h7]
            have ho : (!ownR c ⟨s, wh, cl⟩) = false := by unfold ownR; rw [decide_eq_true h5, decide_eq_true (hone.2 h7)]; rfl
            have HG := hidep (HF.out ho)
            clear ho hone h7 h5 h6
            go_wp2
            go_ret
            exact ⟨by rw [HG.out]; rfl, rfl⟩
          · have g7 : (y == c) = false := by simp [h7]
            have ho : (!ownR c ⟨s, wh, cl⟩) = true := by unfold ownR; rw [decide_eq_false (fun e => h7 (hone.1 e)), Bool.and_false]; rfl
            have HG := hidep (HT.out.trans ho)
            clear ho hone h7 h5 h6
            go_wp2
            go_roundw
            case rel => exact ⟨k + 1, by omega, by go_num, HG, trivial⟩
            case measure => simp [intOf]; omega
        · have g6 : ¬ (s.size : Int) = 1 := by omega
          have g6b : ((s.size : Int) == 1) = false := by simp; omega
          have ho : (!ownR c ⟨s, wh, cl⟩) = true := by
            unfold ownR
            rw [decide_eq_false (p := byts s = [c]) (fun e => h6 (by rw [<- zq1a, e]; rfl)), Bool.and_false]; rfl
          have HG := hidep (HT.out.trans ho)
          clear ho h5 h6
          go_wp2
          go_roundw
          case rel => exact ⟨k + 1, by omega, by go_num, HG, trivial⟩
          case measure => simp [intOf]; omega
      · have g5 : (wh == 0) = false := by simp [h5]
        have ho : (!ownR c ⟨s, wh, cl⟩) = true := by unfold ownR; rw [decide_eq_false h5, Bool.false_and]; rfl
        have HG := hidep (HT.out.trans ho)
        clear ho
        go_wp2
        go_roundw
        case rel => exact ⟨k + 1, by omega, by go_num, HG, trivial⟩
        case measure => simp [intOf]; omega
    · have hkl : k = l.length := by omega
      have hA := hg.out
      rw [hkl, List.take_length] at hA
      have HA := hidep hA
      clear hA
      go_wp2
      go_ret
      exact ⟨by rw [HA.out]; rfl, rfl⟩
end Go.Proofs.YtcfjepcflanjbaaGreat
