/- Contracts of package merge and its reference where the base lies in a block of whatever type: printed by gencopy.py from the texts that ask for a typed one. -/
import Derived.Laws.EntriesVeiled
import Derived.Sort.CutIn
import Derived.Test.YthdafajhohdkoaaMgPf
namespace Go.Proofs.Ythdafajhohdkoaa
open Go.RowKit Go.Lab Go.Shelf
attribute [local go_sem] Oper.semAt_some
/-- A text in a block of whatever type. -/
def BaseAt (w : World) (v : Value) (l : List Sym) : Prop := Rd w (fun _ => True) 2 v l.length (symsC l)
theorem SymsAt.base {w : World} {v : Value} {l : List Sym} (h : SymsAt w v l) : BaseAt w v l := Rd.mono h (fun _ _ => trivial)
theorem BaseAt.below {w w' : World} {v : Value} {l : List Sym} (h : BaseAt w v l) (hb : Below w.heap.size w w') : BaseAt w' v l := Rd.below h hb
theorem BaseAt.form {w : World} {v : Value} {l : List Sym} (h : BaseAt w v l) : ∃ a cap, v = .slice a l.length cap ∧ l.length ≤ cap ∧ cap ≤ maxLen := Rd.form h
theorem BaseAt.at {w : World} {a : Option Addr} {c : Nat} {l : List Sym} (h : BaseAt w (.slice a l.length c) l) {k : Nat} (hk : k < l.length) :
    ∃ b off, a = some ⟨b, off, none⟩ ∧ b < w.heap.size ∧ w.cell? ⟨b, off + k * 2, none⟩ = some (.int .i64 l[k].lang) ∧ w.cell? ⟨b, off + k * 2 + 1, none⟩ = some (.int .u8 l[k].c) := by
  obtain ⟨b, off, e, hb, hc⟩ := Rd.at h (by omega)
  have := symsC_get l k hk
  exact ⟨b, off, e, hb, hc _ _ this.1, hc (k * 2 + 1) _ this.2⟩
theorem BaseAt.part {w : World} {a : Option Addr} {c : Nat} {l : List Sym} (h : BaseAt w (.slice a l.length c) l) {x y m : Nat} (h1 : x ≤ y) (h2 : y ≤ l.length) (h3 : y ≤ m) (h4 : m ≤ c) :
    BaseAt w (.slice (if m = x then a else a.map (·.add (x * 2))) (y - x) (m - x)) ((l.drop x).take (y - x)) := by
  have := Rd.part h h1 h2 h3 h4
  rw [symsC_drop, symsC_take] at this
  unfold BaseAt
  have e : ((l.drop x).take (y - x)).length = y - x := by simp; omega
  rw [e]
  exact this
set_option maxHeartbeats 400000 in
theorem good_anyB (v : Value) (l : List Sym) (w : World) (h : BaseAt w v l) :
    Calls Try.prog 46 #[v] w fun e w' => e = .returned (.bool (l.all goodB)) ∧ w = w' := by
  obtain ⟨a, cap, rfl, h2, h3⟩ := h.form
  unfold maxLen at h3
  go_enter Try.func46, Try.ntmps46
  go_wp2
  go_loop [3] (fun i => ∃ k : Nat, k ≤ l.length ∧ i = .int .i64 k ∧ Hid ((l.take k).all goodB = true)) (fun i => l.length - (intOf i).toNat)
  case atStart => exact ⟨0, Nat.zero_le _, rfl, rfl⟩
  case round =>
    obtain ⟨k, hk, rfl, hg⟩ := hrel
    by_cases hlt : k < l.length
    · obtain ⟨b, off, rfl, hb, hc1, hc2⟩ := h.at hlt
      have HB : Hid (∀ x, l[k] = x → (l.take (k + 1)).all goodB = goodB x ∧ (goodB x = false → l.all goodB = false)) := by
        rintro x rfl
        refine ⟨by rw [all_take_succ _ _ _ hlt, hg.out]; simp, all_false_at _ _ _ hlt⟩
      have HB := hidep (HB.out _ rfl)
      clear h
      generalize l[k] = x at *
      obtain ⟨lang, c⟩ := x
      simp only at hc1 hc2
      go_wp2_with (go_at_call 68; refine (written_any _ _).mono ?_; rintro e w' ⟨rfl, rfl⟩)
      · have hf : goodB ⟨lang, c⟩ = false := by
          have hw : (lang < 0 ∨ 1 < lang) ∨ (!writtenB c) = true := by assumption
          unfold goodB
          rcases hw with (hw | hw) | hw
          · simp only [Bool.and_eq_false_iff, decide_eq_false_iff_not]; omega
          · simp only [Bool.and_eq_false_iff, decide_eq_false_iff_not]; omega
          · simp only [Bool.not_eq_true'] at hw; simp [hw]
        go_ret
        exact ⟨ret_val (congrArg _ (HB.out.2 hf).symm), rfl⟩
      · have ht : goodB ⟨lang, c⟩ = true := by
          have hw : (0 ≤ lang ∧ lang ≤ 1) ∧ (!writtenB c) = false := by assumption
          unfold goodB
          simpa using hw
        go_round
        case rel => exact ⟨k + 1, by omega, by go_num, hidep (by rw [HB.out.1, ht])⟩
        case measure => simp [intOf]; omega
      · have hf : goodB ⟨lang, c⟩ = false := by
          have hw : 1 < lang := by assumption
          unfold goodB
          simp only [Bool.and_eq_false_iff, decide_eq_false_iff_not]; omega
        go_ret
        exact ⟨ret_val (congrArg _ (HB.out.2 hf).symm), rfl⟩
      · have hf : goodB ⟨lang, c⟩ = false := by
          have hw : lang < 0 := by assumption
          unfold goodB
          simp only [Bool.and_eq_false_iff, decide_eq_false_iff_not]; omega
        go_ret
        exact ⟨ret_val (congrArg _ (HB.out.2 hf).symm), rfl⟩
    · go_wp2
      go_ret
      have hlk : k = l.length := by omega
      subst hlk
      have := hg.out
      rw [List.take_length] at this
      exact ⟨ret_val (congrArg _ this.symm), rfl⟩
set_option maxHeartbeats 400000 in
theorem indexFunc_mtextB (v : Value) (l : List Sym) (w : World) (h : BaseAt w v l) :
    Calls Try.prog 81 #[v, .func (.func 70) #[] #[]] w fun e w' => (∃ k : Int, e = .returned (.int .i64 k) ∧ Hid (decide (0 ≤ k) = !l.all goodB)) ∧ Below w.heap.size w w' := by
  obtain ⟨a, cap, rfl, h2, h3⟩ := h.form
  unfold maxLen at h3
  go_enter Try.func81, Try.ntmps81
  go_wp2
  go_loopw [8] (fun i wr => ∃ k : Nat, k ≤ l.length ∧ i = .int .i64 k ∧ Hid ((l.take k).all goodB = true) ∧ Below w.heap.size w wr) (fun i _ => l.length - (intOf i).toNat)
  case atStart => exact ⟨0, Nat.zero_le _, rfl, hidep rfl, Below.refl _ _⟩
  case round =>
    obtain ⟨k, hk, rfl, hg, hbw⟩ := hrel
    by_cases hlt : k < l.length
    · obtain ⟨b, off, rfl, hb, hc1, hc2⟩ := (h.below hbw).at hlt
      have HB : Hid (∀ x, l[k] = x → (l.take (k + 1)).all goodB = goodB x ∧ (goodB x = false → l.all goodB = false)) := by
        rintro x rfl
        refine ⟨by rw [all_take_succ _ _ _ hlt, hg.out]; simp, all_false_at _ _ _ hlt⟩
      have HB := hidep (HB.out _ rfl)
      clear h
      generalize l[k] = x at *
      obtain ⟨lang, c⟩ := x
      simp only at hc1 hc2
      go_wp2_with (go_at_call 70; refine (mtext1_any _ _ _).mono ?_; rintro e w1 ⟨rfl, hb1⟩)
      · have hf : goodB ⟨lang, c⟩ = false := by
          have hw : (!goodB ⟨lang, c⟩) = true := by assumption
          simpa using hw
        go_ret
        exact ⟨⟨_, rfl, hidep (by rw [HB.out.2 hf]; simp; try omega)⟩, hbw.trans (hb1.mono hbw.size)⟩
      · have ht : goodB ⟨lang, c⟩ = true := by
          have hw : (!goodB ⟨lang, c⟩) = false := by assumption
          simpa using hw
        go_roundw
        case rel => exact ⟨k + 1, by omega, by go_num, hidep (by rw [HB.out.1, ht]), hbw.trans (hb1.mono hbw.size)⟩
        case measure => simp [intOf]; omega
    · go_wp2
      go_ret
      have hkl : k = l.length := by omega
      subst hkl
      have := hg.out
      rw [List.take_length] at this
      exact ⟨⟨_, rfl, hidep (by rw [this]; rfl)⟩, hbw⟩
set_option maxHeartbeats 400000 in
theorem containsFunc_mtextB (v : Value) (l : List Sym) (w : World) (h : BaseAt w v l) :
    Calls Try.prog 69 #[v, .func (.func 70) #[] #[]] w fun e w' => e = .returned (.bool (!l.all goodB)) ∧ Below w.heap.size w w' := by
  have HI := hidep (indexFunc_mtextB v l w h)
  clear h
  go_enter Try.func69, Try.ntmps69
  go_wp2_with fail
  refine HI.out.mono ?_
  rintro e w1 ⟨⟨k, rfl, hk⟩, hb⟩
  go_wp2
  go_ret
  exact ⟨ret_val (congrArg Value.bool hk.out), hb⟩
set_option maxHeartbeats 400000 in
theorem mtext_anyB (v : Value) (l : List Sym) (w : World) (h : BaseAt w v l) :
    Calls Try.prog 52 #[v] w fun e w' => e = .returned (.bool (isTextB l)) ∧ Below w.heap.size w w' := by
  have HI := hidep (containsFunc_mtextB v l w h)
  obtain ⟨a, cap, rfl, h2, h3⟩ := h.form
  unfold maxLen at h3
  clear h
  have HT : Hid (isTextB l = (decide (l.length ≤ 2048) && l.all goodB)) := hidep rfl
  by_cases hl : l.length ≤ 2048
  · have HT := hidep (HT.out.trans (by rw [decide_eq_true hl]; rfl : _ = l.all goodB))
    go_enter Try.func52, Try.ntmps52
    go_wp2_with fail
    refine HI.out.mono ?_
    rintro e w1 ⟨rfl, hb⟩
    go_wp2
    go_ret
    exact ⟨ret_val (congrArg Value.bool (HT.out.trans (by simp)).symm), hb⟩
  · have HT := hidep (HT.out.trans (by rw [decide_eq_false hl]; rfl : _ = false))
    go_enter Try.func52, Try.ntmps52
    go_wp2
    go_ret
    exact ⟨ret_val (congrArg Value.bool HT.out.symm), Below.refl _ _⟩
set_option maxHeartbeats 400000 in
theorem text34_anyB (v : Value) (l : List Sym) (w : World) (h : BaseAt w v l) :
    Calls Try.prog 49 #[v] w fun e w' => e = .returned (.bool (isTextB l)) ∧ w = w' := by
  have HI := hidep (good_anyB v l w h)
  obtain ⟨a, cap, rfl, h2, h3⟩ := h.form
  unfold maxLen at h3
  clear h
  have HT : Hid (isTextB l = (decide (l.length ≤ 2048) && l.all goodB)) := hidep rfl
  by_cases hl : l.length ≤ 2048
  · have HT := hidep (HT.out.trans (by rw [decide_eq_true hl]; rfl : _ = l.all goodB))
    go_enter Try.func49, Try.ntmps49
    go_wp2_with fail
    refine HI.out.mono ?_
    rintro e w1 ⟨rfl, rfl⟩
    go_wp2
    go_ret
    exact ⟨ret_val (congrArg Value.bool HT.out.symm), rfl⟩
  · have HT := hidep (HT.out.trans (by rw [decide_eq_false hl]; rfl : _ = false))
    go_enter Try.func49, Try.ntmps49
    go_wp2
    go_ret
    exact ⟨ret_val (congrArg Value.bool HT.out.symm), rfl⟩
set_option maxRecDepth 100000 in
set_option maxHeartbeats 4000000 in
theorem keep_anyB (w0 : World) (Bat Bk Bo Bb : Nat) (fz : Nat × Nat) (vb : Value) (base : List Sym) (hBb : w0.heap[Bb]? = some (.cells #[vb] 23 fz)) (hb : BaseAt w0 vb base) (hlb : base.length ≤ 2048)
    (tt k : Nat) (hto : tt ≤ base.length) (kept : List (Nat × Nat)) (out : List Sym) (vk vo : Value) (w : World) (hbw : Below w0.heap.size w0 w) (h : KSt w0.heap.size Bat Bk Bo w k kept out vk vo) (hl1 : kept.length ≤ 1048576) (hl2 : out.length ≤ 1048576) :
    Calls Try.prog 53 #[.int .i64 tt, .pointer (some ⟨Bat, 0, none⟩), .pointer (some ⟨Bk, 0, none⟩), .pointer (some ⟨Bo, 0, none⟩), .pointer (some ⟨Bb, 0, none⟩)] w fun e w' => e = .returned (.tuple #[]) ∧
      ∃ vk' vo', KSt w0.heap.size Bat Bk Bo w' ((k + (tt - k) : Nat) : Int) (kept ++ segP k out.length (tt - k)) (out ++ segS base k (tt - k)) vk' vo' ∧ Left w0.heap.size w w' := by
  obtain ⟨ab, cb, rfl, hcb, hmb⟩ := hb.form
  unfold maxLen at hmb
  go_enter Try.func53, Try.ntmps53
  go_wp2
  go_loopg [] (tt - k) (fun g wr => ∃ (j m : Nat) (kp : List (Nat × Nat)) (ou : List Sym) (vk' vo' : Value), Hid (j ≤ tt - k ∧ tt - k - j = g ∧ m = k + j ∧ kp = kept ++ segP k out.length j ∧ ou = out ++ segS base k j) ∧ (m ≤ tt ∨ m = k) ∧ kp.length ≤ 1060000 ∧ ou.length ≤ 1060000 ∧ KSt w0.heap.size Bat Bk Bo wr (m : Int) kp ou vk' vo' ∧ Left w0.heap.size w wr)
  case atStart => exact ⟨0, k, kept, out, vk, vo, hidep ⟨by omega, rfl, rfl, by simp [segP], by simp [segS]⟩, .inr rfl, by omega, by omega, h, Left.refl _ _⟩
  case round =>
    obtain ⟨j, m, kp, ou, vk', vo', HI, hmt, hlk, hlo, hS, hL⟩ := hrel
    obtain ⟨ak, ck, rfl, _, _⟩ := (Rd.of_own hS.kr).form
    obtain ⟨ao, co, rfl, _, _⟩ := (Rd.of_own hS.or).form
    have hca := hS.ia.cell
    have hck := hS.kb.cell
    have hco := hS.ob.cell
    have hxw := hbw.trans hL.below
    have hBw := (hxw.block _ (lt_of_block hBb)).trans hBb
    have hcb2 := box_cell hBw
    have hsb := hb.below hxw
    by_cases hlt : m < tt
    · obtain ⟨b, off, rfl, hbl, hd0', hd1'⟩ := hb.at (k := m) (by omega)
      have hd0 := (hxw.cell (p := ⟨b, off + m * 2, none⟩) hbl).trans hd0'
      have hd1 := (hxw.cell (p := ⟨b, off + m * 2 + 1, none⟩) hbl).trans hd1'
      clear hd0' hd1'
      have HSS : Hid (∀ s, base[m]'(by omega) = s → k + j < base.length ∧ segS base k (j + 1) = segS base k j ++ [s]) := hidep (by
        rintro s rfl
        obtain ⟨_, _, hm, _, _⟩ := HI.out
        subst hm
        exact ⟨by omega, segS_succ (by omega)⟩)
      have HSS := hidep (HSS.out _ rfl)
      generalize base[m]'(by omega) = s at *
      obtain ⟨lang, ch⟩ := s
      simp only at hd0 hd1
      clear hsb hb
      have hfr := Rd.fresh wr #[.int .i64 (m : Nat), .int .i64 (ou.length : Nat)] 45 2 1 rfl (by decide)
      go_upto_region 3 with (at_builtin; refine wpList_append_rd _ rfl (.tmp 11) (.tmp 16) rfl slPair w0.heap.size _ _ _ rfl (hS.kr.alloc _) _ _ _ _ rfl hfr (by intro u hu; simp at hu; rcases hu with rfl | rfl <;> rfl) (by unfold maxLen; omega) (by omega) (by have := hS.hz; simp; omega) ?_; intro v2 w2 hown2 hgr2 hat hnl; clear hat hnl hfr; obtain ⟨hS2, hL2, hBx⟩ := hS.pushKept (p := (m, ou.length)) hown2 hgr2; obtain ⟨a2, c2, rfl, _, _⟩ := (Rd.of_own hown2).form; have hbx1 := hBx.cell; have hbx2 := hBx.frozen)
      obtain ⟨w3, hw3⟩ : ∃ w3, w2.setCell ⟨Bk, 0, none⟩ (.slice a2 (kp.length + 1) c2) = w3 := ⟨_, rfl⟩
      rw [hw3] at hS2 hL2 ⊢
      clear hw3 hbx1 hbx2 hBx hown2 hgr2
      have hb3 := hL2.below
      have e0 := (hb3.cell (p := ⟨b, off + m * 2, none⟩) hbl).trans hd0
      have e1 := (hb3.cell (p := ⟨b, off + m * 2 + 1, none⟩) hbl).trans hd1
      have eb := (hb3.cell (p := ⟨Bb, 0, none⟩) (lt_of_block hBb)).trans hcb2
      have ea := hS2.ia.cell
      have eo := hS2.ob.cell
      have ef := hS2.ob.frozen
      have l1 := hS2.ob.lt
      have l2 := hS2.ia.lt
      have l3 : Bb < w3.heap.size := Nat.lt_of_lt_of_le (lt_of_block hBb) hS2.hz
      have l4 : b < w3.heap.size := Nat.lt_of_lt_of_le hbl hS2.hz
      have hI1 : (0 : Int) ≤ (m : Int) := by omega
      have hI2 : (m : Int) < (base.length : Int) := by omega
      clear hd0 hd1 hca hck hco hcb2 hS
      go_region_law (first
        | (have hfr := Rd.fresh w3 #[.int .i64 lang, .int .u8 ch] 34 2 1 rfl (by decide); refine step_append_rd _ (by rfl) (.tmp 18) (.tmp 23) (by rfl) slSyms w0.heap.size (.slice ao ou.length co) _ _ (by rfl) (by exact hS2.or.alloc _) _ _ _ _ (by rfl) (by exact hfr) (by intro u hu; simp at hu; rcases hu with rfl | rfl <;> rfl) (by unfold maxLen; omega) (by omega) (by have := hS2.hz; simp; omega) ?_; intro v4 w4 hown4 hgr4 hat hnl; clear hat hnl hfr; obtain ⟨hS4, hL4, hBx⟩ := hS2.pushOut (l := [⟨lang, ch⟩]) hown4 (grown_undrew hgr4); obtain ⟨a4, c4, rfl, _, _⟩ := (Rd.of_own hown4).form; have hbx1 := hBx.cell; have hbx2 := hBx.frozen; dsimp only)
        | fail)
      all_goals
        obtain ⟨w5, hw5⟩ : ∃ w5, w4.setCell ⟨Bo, 0, none⟩ (.slice a4 (ou.length + 1) c4) = w5 := ⟨_, rfl⟩
        rw [hw5] at hS4 hL4 ⊢
        clear hw5 hbx1 hbx2 hBx hown4 hgr4 e0 e1 eb ea eo ef l1 l2 l3 l4 hS2
        have ea5 := hS4.ia.cell
        have ef5 := hS4.ia.frozen
        have HF := hidep (hS4.setAt ((m : Int) + 1))
        have HL := hidep ((hL.trans hL2).trans hL4)
        clear hS4 hL hL2 hL4 hb3 hxw
        go_wp2
        go_roundg (tt - k - (j + 1))
        case measure =>
          obtain ⟨_, q2, q3, _, _⟩ := HI.out
          omega
        case rel =>
          obtain ⟨q1, q2, q3, q4, q5⟩ := HI.out
          refine ⟨j + 1, m + 1, _, _, _, _, hidep ⟨by omega, by omega, by omega, ?_, ?_⟩, .inl hlt, ?_, ?_, HF.out.1, HL.out.trans HF.out.2⟩
          · rw [segP, ← List.append_assoc, ← q4, q3, q5, List.length_append, segS_len (by omega)]
          · rw [HSS.out.2, ← List.append_assoc, ← q5]
          · have := segP_len k out.length j
            rw [q4, List.length_append, List.length_append, this]
            have := HSS.out.1
            simp
            omega
          · rw [q5, List.length_append, List.length_append, segS_len (by omega)]
            have := HSS.out.1
            simp
            omega
    · have HJ : Hid (j = tt - k) := hidep (by obtain ⟨q1, q2, q3, q4, q5⟩ := HI.out; omega)
      clear hsb
      go_wp2
      go_end0
      obtain ⟨q1, q2, q3, q4, q5⟩ := HI.out
      have hj := HJ.out
      subst hj q3 q4 q5
      exact ⟨rfl, _, _, hS, hL⟩
set_option maxRecDepth 100000 in
set_option maxHeartbeats 4000000 in
theorem merged_runB (v va vb : Value) (base : List Sym) (av bv : List EV) (w : World) (h : BaseAt w v base) (ha : EvAt w va av) (hb : EvAt w vb bv)
    (ht : isTextB base = true) (hva : validZ base.length (av.map (·.1)) = true) (hvb : validZ base.length (bv.map (·.1)) = true) :
    Calls Try.prog 35 #[v, va, vb] w (MergedR w base av bv) := by
  obtain ⟨a, c, rfl, hc1, hc2⟩ := h.form
  obtain ⟨aa, ca, rfl, _, _⟩ := ha.form
  obtain ⟨ab, cb, rfl, _, _⟩ := hb.form
  unfold maxLen at hc2
  have hl := isTextB_len0 ht
  have HT := hidep (fun W (hW : Below w.heap.size w W) => mtext_anyB _ base W (h.below hW))
  have HA := hidep (fun W (hW : Below w.heap.size w W) => mvalid_any _ base.length _ W ((ha.below hW).edits) (by omega) (by omega))
  have HB := hidep (fun W (hW : Below w.heap.size w W) => mvalid_any _ base.length _ W ((hb.below hW).edits) (by omega) (by omega))
  rw [ht] at HT
  rw [hva] at HA
  rw [hvb] at HB
  have hfw : Fence.wide.fn 35 := trivial
  have hfc : Fence.wide.fn 58 := trivial
  have hfv : Fence.wide.fn 85 := trivial
  refine (callsIn_wide (n := 8)).1 ?_
  refine callsIn_of_wp_marks Try.func35 rfl hfw ?_ rfl
  simp only [Try.ntmps35, List.size_toArray, List.length_cons, List.length_nil, Nat.reduceAdd, Nat.reduceSub, Array.replicate_succ, Array.replicate_zero, List.push_toArray, List.append_toArray, List.nil_append, List.cons_append]
  have hM0 := MBox.start w (.slice a base.length c)
  have HM := hidep hM0.bw
  gi_wp2_with (first
    | (refine ⟨trivial, ?_⟩; gi_at_call 52; refine (callsIn_wide.2 (HT.out _ HM.out)).mono ?_; rintro e w1 ⟨rfl, hb1⟩; have hM1 := hM0.step hb1; clear hM0; have c3 := hM1.b3.cell)
    | (refine ⟨trivial, ?_⟩; gi_at_call 40; (with_reducible refine (callsIn_wide.2 (HA.out _ hM1.bw)).mono ?_); rintro e w2 ⟨rfl, hb2⟩; have hM2 := hM1.step hb2; clear hM1 c3; have c3 := hM2.b3.cell)
    | (refine ⟨trivial, ?_⟩; gi_at_call 40; (with_reducible refine (callsIn_wide.2 (HB.out _ hM2.bw)).mono ?_); rintro e w3 ⟨rfl, hb3⟩; have hM3 := hM2.step hb3; clear hM2 c3)
    | (refine ⟨trivial, ?_⟩; gi_at_call 42; refine (callsIn_wide.2 (clashes_any _ _ _ _ _ _ _)).mono ?_; rintro e w4 ⟨rfl, rfl⟩)
    | fail)
  have hx3 := hM3.bw
  have ho1 := validZ_ok (by omega) hva
  have ho2 := validZ_ok (by omega) hvb
  have hA4 := (Below.heap_alloc (w3.alloc (.cells #[.slice aa av.length ca] 25)) (.cells #[.slice ab bv.length cb] 25) _ (by simp)).trans (heap_alloc_new w3 (.cells #[.slice aa av.length ca] 25))
  have hB4 : ((w3.alloc (.cells #[.slice aa av.length ca] 25)).alloc (.cells #[.slice ab bv.length cb] 25)).heap[w3.heap.size + 1]? = some (.cells #[.slice ab bv.length cb] 25) := by
    have := heap_alloc_new (w3.alloc (.cells #[.slice aa av.length ca] 25)) (.cells #[.slice ab bv.length cb] 25)
    rwa [World.size_alloc] at this
  have h34 : Below w3.heap.size w3 ((w3.alloc (.cells #[.slice aa av.length ca] 25)).alloc (.cells #[.slice ab bv.length cb] 25)) := ((Below.refl _ _).alloc (Nat.le_refl _) _).alloc (by simp) _
  have hM4 := hM3.step h34
  obtain ⟨w4, hw4⟩ : ∃ w4, (w3.alloc (.cells #[.slice aa av.length ca] 25)).alloc (.cells #[.slice ab bv.length cb] 25) = w4 := ⟨_, rfl⟩
  rw [hw4] at hA4 hB4 h34 hM4 ⊢
  clear hw4 hM3
  have hz4 : w.heap.size ≤ w4.heap.size := hM4.bw.size
  refine wpIn_rangeFunc_ownG rfl (by omega) (gf := 58) (lb := #[.pointer (some ⟨w3.heap.size, 0, none⟩), .pointer (some ⟨w3.heap.size + 1, 0, none⟩)]) rfl hfc (enters_of Try.func58 (by kernel_rfl) rfl)
    (clashes_stops (8 - 1) (by omega) w3.heap.size (w3.heap.size + 1) (av.map (·.1)) (bv.map (·.1)) _ _ (0, 0) (0, 0) ho1 ho2 w4 hA4 hB4 (((ha.below hx3).below h34).edits) (((hb.below hx3).below h34).edits))
    keepsTk_t (keepsTk_b (n := w4.heap.size)) (Below.refl _ _) (fun _ => rfl)
    (fun pre W => pre = [] ∧ MBox w (.slice a base.length c) W)
    (fun cd _ W => cd = .ret ∧ MBoxR w (.slice none 0 0) (.slice none 0 0) 18 W)
    (fun s A B row hs hg hr => ⟨hs.1, hs.2.own hg hz4 hr⟩)
    (fun cd s A B row hs hg hr => ⟨hs.1, hs.2.own hg hz4 hr⟩)
    ⟨rfl, hM4⟩
    (fun x => { tmps := #[.slice a base.length c, .slice aa av.length ca, .slice ab bv.length cb, .pointer (some ⟨w.heap.size, 0, none⟩), undef, undef, .pointer (some ⟨w.heap.size + 1, 0, none⟩), .pointer (some ⟨w.heap.size + 1 + 1, 0, none⟩), .pointer (some ⟨w.heap.size + 1 + 1 + 1, 0, none⟩), undef, undef, undef, undef, undef, .slice a base.length c, .bool true, .bool false, .bool false, .slice aa av.length ca, .slice a base.length c, .int .i64 base.length, .bool true, .bool false, .bool false, .bool false, .slice ab bv.length cb, .slice a base.length c, .int .i64 base.length, .bool true, .bool false, .bool false, .slice aa av.length ca, .slice ab bv.length cb, .func (.func 58) #[] #[.pointer (some ⟨w3.heap.size, 0, none⟩), .pointer (some ⟨w3.heap.size + 1, 0, none⟩)], .agg #[.int .i64 (x.1 : Nat), .int .i64 (x.2 : Nat)], undef, undef, undef, undef, undef, undef, undef, undef, undef, undef, undef, undef, undef, undef, undef, undef, undef, undef, undef, undef, undef, undef, undef, undef, undef, undef], defers := [] }) ?assign ?body ?done ?stop
  case assign =>
    intro l x W K hK
    gi_wp2
    exact hK
  case body =>
    rintro l pre x W ⟨rfl, hM⟩ _
    have c6 := hM.b6.cell
    have c7 := hM.b7.cell
    have c8 := hM.b8.cell
    have f6 := hM.b6.frozen
    have f7 := hM.b7.frozen
    have f8 := hM.b8.frozen
    have HC := hidep (hM.put (.slice none 0 0) (.slice none 0 0) 18)
    gi_wp2
    exact ⟨HC.out.2.from _, rfl, HC.out.1⟩
  case stop =>
    rintro D cd pre W hD ⟨hpre, hne⟩ ⟨rfl, hX⟩ hK
    have c6 := hX.b6.cell
    have c7 := hX.b7.cell
    have c8 := hX.b8.cell
    have HX := hidep hX
    have HNE : Hid (clashP (av.map (·.1)) (bv.map (·.1)) ≠ []) := hidep (fun e => by rw [e] at hpre; exact hne (List.prefix_nil.1 hpre))
    gi_wp2
    refine ⟨by simp, .inl ⟨_, _, rfl, run_takeDeferred hK, ?_⟩⟩
    have hX' := HX.out.own (grownBy_putObj' W D (.deferred none)) hz4 (fun r e => by cases e; exact ⟨hD, _, hK, rfl⟩)
    have c6 := hX'.b6.cell
    have c7 := hX'.b7.cell
    have c8 := hX'.b8.cell
    refine ⟨_, results_cells3 rfl _ _ _ rfl rfl rfl (v1 := .slice none 0 0) (v2 := .slice none 0 0) (v3 := .int .i64 18) (by go_simp) (by go_simp) (by go_simp), ?_⟩
    exact ⟨([], [], 18), .inl ⟨HNE.out, rfl⟩, _, _, rfl, World.ownsRow_nil _ _ _ _, World.ownsRow_nil _ _ _ _, hX'.bw⟩
  case done =>
    rintro D ys W hD rfl ⟨hnil, hM⟩ hK
    have hEa := ha.below hM.bw
    have hEb := hb.below hM.bw
    have hBase := h.below hM.bw
    have hia := validZ_in hva
    have hib := validZ_in hvb
    have hla := validZ_len hva
    have hlb := validZ_len hvb
    rw [List.length_map] at hla hlb
    have hGa : ∀ x ∈ av, InE base.length x.1 ∧ SymsAt W x.2 x.1.ins := fun x hx => ⟨hia _ (List.mem_map_of_mem hx), hEa.2 x hx⟩
    have hGb : ∀ x ∈ bv, InE base.length x.1 ∧ SymsAt W x.2 x.1.ins := fun x hx => ⟨hib _ (List.mem_map_of_mem hx), hEb.2 x hx⟩
    have hG : ∀ x ∈ bothL av bv, InE base.length x.1 ∧ SymsAt W x.2 x.1.ins := fun x hx => by
      rcases List.mem_append.1 hx with hx | hx
      · exact hGa x hx
      · exact hGb x (List.mem_filter.1 hx).1
    have hlB : (bothL av bv).length ≤ 64 := by
      have := List.length_filter_le (fun x : EV => !memB (av.map (·.1)) x.1) bv
      unfold bothL
      rw [List.length_append]
      omega
    have HBT := hidep (fun X (hX : Below W.heap.size W X) => both_any _ _ av bv X (hEa.below hX) (hEb.below hX) (fun x hx => okE_of (hGa x hx).2 hl (hGa x hx).1) (fun x hx => okE_of (hGb x hx).2 hl (hGb x hx).1) hla hlb)
    have HN := hidep hnil
    obtain ⟨hS0, hF0, hX0⟩ := kst_start W (.func (.func 53) #[] #[.pointer (some ⟨W.heap.size + 1 + 1, 0, none⟩), .pointer (some ⟨W.heap.size + 1, 0, none⟩), .pointer (some ⟨W.heap.size, 0, none⟩), .pointer (some ⟨w.heap.size, 0, none⟩)])
    have HX0 := hidep hX0
    clear hnil hEa hEb hia hib hGa hGb hX0
    gi_wp2_with (first
      | (refine ⟨trivial, ?_⟩; gi_at_call 54; refine (callsIn_wide.2 (HBT.out _ HX0.out)).mono ?_; rintro e w7 ⟨L, Ba, vL, rfl, hperm, hasc, hBa, hbx, hrd, hb7⟩)
      | fail)
    have hS7 := hS0.left hb7
    have hF7 := boxed_step hF0 hb7
    have hW7 := HX0.out.trans (hb7.mono HX0.out.size)
    have hGL : ∀ x ∈ L, InE base.length x.1 ∧ SymsAt W x.2 x.1.ins := fun x hx => hG x (hperm.mem_iff.1 hx)
    obtain ⟨Ls, hLs⟩ : ∃ Ls : List { x : EV // InE base.length x.1 ∧ SymsAt W x.2 x.1.ins }, Ls.map (·.1) = L := ⟨subOf L hGL, subOf_map L hGL⟩
    have hlL : Ls.length ≤ 64 := by
      have := hperm.length_eq
      rw [← hLs, List.length_map] at this
      omega
    rw [← hLs] at hrd
    rw [List.length_map] at hrd
    have HP := hidep hperm
    have HQ := hidep hasc
    have HLS := hidep hLs
    have hz7 := hW7.size
    clear hS0 hF0 hb7 hGL hperm hasc hLs hG
    refine wpIn_rangeFunc_ownH rfl (by omega) (gf := 85) (lb := #[.pointer (some ⟨Ba, 0, none⟩)]) rfl hfv (enters_of Try.func85 (by kernel_rfl) rfl)
      (values_stops (8 - 1) (by omega) Ba Ls vL (0, 0) (fun x hx => by obtain ⟨a, c, e, _, _⟩ := hx.2.form; exact ⟨a, _, c, e⟩) w7 hbx hrd)
      keepsTe_t (keepsTe_b (n := w7.heap.size)) (Below.refl _ _) (fun _ => rfl)
      (fun pre X => (∃ vk vo, KSt W.heap.size (W.heap.size + 1 + 1) (W.heap.size + 1) W.heap.size X ((foldS base (pre.map (·.1.1))).k : Nat) (foldS base (pre.map (·.1.1))).kept (foldS base (pre.map (·.1.1))).out vk vo) ∧ Boxed X (W.heap.size + 1 + 1 + 1) 84 (.func (.func 53) #[] #[.pointer (some ⟨W.heap.size + 1 + 1, 0, none⟩), .pointer (some ⟨W.heap.size + 1, 0, none⟩), .pointer (some ⟨W.heap.size, 0, none⟩), .pointer (some ⟨w.heap.size, 0, none⟩)]) ∧ Below W.heap.size W X)
      (fun _ _ _ => False)
      (fun s A B row hs hg hr => by
        obtain ⟨⟨vk, vo, h1⟩, h2, h3⟩ := hs
        exact ⟨⟨vk, vo, h1.own hg (fun r e => (hr r e).2)⟩, boxed_own0 h2 hg (fun r e => (hr r e).2), h3.grown hg h3.size (fun k e => Nat.le_trans hz7 (hr k e).1)⟩)
      (fun _ _ _ _ _ hs _ _ => hs)
      ⟨⟨_, _, hS7⟩, hF7, hW7⟩
      (fun x a' X => ∃ Bx, W.heap.size + 4 ≤ Bx ∧ X.heap[Bx]? = some (.cells #[.int .i64 x.1.1.pos, .int .i64 x.1.1.del, x.1.2] 36) ∧ a' = { tmps := #[.slice a base.length c, .slice aa av.length ca, .slice ab bv.length cb, .pointer (some ⟨w.heap.size, 0, none⟩), undef, undef, .pointer (some ⟨w.heap.size + 1, 0, none⟩), .pointer (some ⟨w.heap.size + 1 + 1, 0, none⟩), .pointer (some ⟨w.heap.size + 1 + 1 + 1, 0, none⟩), .pointer (some ⟨W.heap.size, 0, none⟩), .pointer (some ⟨W.heap.size + 1, 0, none⟩), .pointer (some ⟨W.heap.size + 1 + 1, 0, none⟩), .pointer (some ⟨W.heap.size + 1 + 1 + 1, 0, none⟩), .pointer (some ⟨Bx, 0, none⟩), .slice a base.length c, .bool true, .bool false, .bool false, .slice aa av.length ca, .slice a base.length c, .int .i64 base.length, .bool true, .bool false, .bool false, .bool false, .slice ab bv.length cb, .slice a base.length c, .int .i64 base.length, .bool true, .bool false, .bool false, .slice aa av.length ca, .slice ab bv.length cb, .func (.func 58) #[] #[.pointer (some ⟨w3.heap.size, 0, none⟩), .pointer (some ⟨w3.heap.size + 1, 0, none⟩)], undef, .func (.func 53) #[] #[.pointer (some ⟨W.heap.size + 1 + 1, 0, none⟩), .pointer (some ⟨W.heap.size + 1, 0, none⟩), .pointer (some ⟨W.heap.size, 0, none⟩), .pointer (some ⟨w.heap.size, 0, none⟩)], .slice aa av.length ca, .slice ab bv.length cb, .func (.func 85) #[] #[.pointer (some ⟨Ba, 0, none⟩)], editV x.1.1 x.1.2, undef, undef, undef, undef, undef, undef, undef, undef, undef, undef, undef, undef, undef, undef, undef, undef, undef, undef, undef, undef, undef], defers := [] })
      (fun x a' _ X Y row hs hg hr => by
        obtain ⟨Bx, h1, h2, h3⟩ := hs
        refine ⟨Bx, h1, (hg.block Bx (lt_of_block h2) (fun e => ?_)).trans h2, h3⟩
        obtain ⟨_, o, ho, hoc⟩ := hr Bx e.symm
        rw [h2] at ho
        injection ho with ho
        subst ho
        cases hoc)
      ?assign2 ?body2 ?done2 ?stop2
    case assign2 =>
      rintro l pre ⟨⟨⟨p, d, ins⟩, u⟩, gx⟩ X K ⟨⟨vk, vo, hS⟩, hF, hB⟩ hK
      have gx2 : SymsAt W u ins := gx.2
      obtain ⟨au, cu, hu, _, _⟩ := gx2.form
      subst hu
      dsimp only [editV]
      gi_wp2
      exact hK _ _ ((KeepsOthers.alloc _ _).from _) (Keeps.alloc _ _ _) ⟨⟨vk, vo, hS.left ((Below.refl _ _).alloc (Nat.le_refl _) _)⟩, hF.alloc _, hB.alloc hB.size _⟩ ⟨X.heap.size, by have := hF.lt; omega, heap_alloc_new X _, rfl⟩
    case body2 =>
      rintro l pre ⟨⟨⟨p, d, ins⟩, u⟩, gx⟩ a' X hl2 ⟨r, hr⟩ ⟨⟨vk, vo, hS⟩, hF, hB⟩ ⟨Bx, hBx, hbX, rfl⟩ hlt
      have gx1 : InE base.length ⟨p, d, ins⟩ := gx.1
      have gx2 : SymsAt W u ins := gx.2
      obtain ⟨g1, g2, g3, g4, g5⟩ := id gx1
      simp only at g1 g2 g3 g4 g5 hbX
      obtain ⟨pn, rfl⟩ : ∃ pn : Nat, p = pn := ⟨p.toNat, by omega⟩
      obtain ⟨dn, rfl⟩ : ∃ dn : Nat, d = dn := ⟨d.toNat, by omega⟩
      obtain ⟨au, cu, hu, _, _⟩ := gx2.form
      have hfit := fits_fold hl (pre.map (·.1.1)) (fun e he => by obtain ⟨y, _, rfl⟩ := List.mem_map.1 he; exact y.2.1)
      rw [List.length_map] at hfit
      have HST : Hid (foldS base ((pre ++ [(⟨(⟨pn, dn, ins⟩, u), gx⟩ : { x : EV // InE base.length x.1 ∧ SymsAt W x.2 x.1.ins })]).map (·.1.1)) = insS ⟨pn, dn, ins⟩ (keepS base pn (foldS base (pre.map (·.1.1))))) := hidep (by
        rw [List.map_append, List.map_cons, List.map_nil, foldS_snoc]; rfl)
      generalize foldS base (pre.map (·.1.1)) = s at *
      have HK := hidep (keep_anyB W (W.heap.size + 1 + 1) (W.heap.size + 1) W.heap.size w.heap.size (0, 0) _ base hM.b3 hBase hl pn s.k (by omega) s.kept s.out vk vo X hB hS (by have := hfit.kept; omega) (by have := hfit.out; omega))
      have HS1 : Hid ((keepS base pn s).out.length ≤ 200000 ∧ (keepS base pn s).k ≤ 200000) := hidep (by
        have h1 := hfit.k
        have h2 := hfit.out
        have h3 := segS_le base s.k (pn - s.k)
        simp only [keepS, List.length_append]
        omega)
      have HK2 : Hid (Calls Try.prog 53 #[.int .i64 pn, .pointer (some ⟨W.heap.size + 1 + 1, 0, none⟩), .pointer (some ⟨W.heap.size + 1, 0, none⟩), .pointer (some ⟨W.heap.size, 0, none⟩), .pointer (some ⟨w.heap.size, 0, none⟩)] X fun e w' => e = .returned (.tuple #[]) ∧
          ∃ vk' vo', KSt W.heap.size (W.heap.size + 1 + 1) (W.heap.size + 1) W.heap.size w' ((keepS base pn s).k : Nat) (keepS base pn s).kept (keepS base pn s).out vk' vo' ∧ Left W.heap.size X w') := HK
      generalize keepS base pn s = s1 at *
      obtain ⟨k1, kp1, o1⟩ := s1
      simp only at HS1 HK2
      have HX := hidep hbX
      subst hu
      have hcF := hF.cell
      obtain ⟨hx0, hx1, hx2⟩ := box3_cell hbX
      have hone := symsC_one ins
      clear HK hfit hbX hr
      have HB := hidep hB
      gi_upto_region 12 with (first
        | (refine ⟨trivial, ?_⟩; gi_at_call 53; refine (CallsIn.inRound l (callsIn_wide.2 HK2.out)).mono ?_; rintro e X1 ⟨rfl, vk1, vo1, hS1, hL1⟩)
        | fail)
      have hB1 := HB.out.trans hL1.below
      have hbX1 := hL1.edits.2 _ _ _ _ (.inl rfl) HX.out
      have hF1 := hL1.edits.2 _ _ _ _ (.inr (.inr rfl)) (show X.heap[W.heap.size + 1 + 1 + 1]? = some (.cells _ 84 (0, 0)) from hF)
      obtain ⟨ao, co, rfl, _, _⟩ := (Rd.of_own hS1.or).form
      have co1 := hS1.ob.cell
      have hx2' := (box3_cell hbX1).2.2
      have hsrc := gx2.below hB1
      have hso := HS1.out.1
      clear hx0 hx1 hx2 hcF hS hF hB
      gi_upto_region 13 with (first
        | (gi_at_builtin; refine wpListIn_append_rd _ rfl (.tmp 44) (.tmp 46) rfl slSyms W.heap.size _ _ _ rfl hS1.or _ _ _ _ rfl hsrc hone (by unfold maxLen; omega) (by omega) hS1.hz ?_; intro v2 X2 hown2 hgr2 hat hnl; clear hat hnl; obtain ⟨hS2, hL2, hbx⟩ := hS1.pushOut0 hown2 hgr2; obtain ⟨a2, c2, rfl, _, _⟩ := (Rd.of_own hown2).form; have hc1 := hbx.cell; have hf1 := hbx.frozen)
        | fail)
      obtain ⟨X3, hX3⟩ : ∃ X3, X2.setCell ⟨W.heap.size, 0, none⟩ (.slice a2 (o1.length + ins.length) c2) = X3 := ⟨_, rfl⟩
      rw [hX3] at hS2 hL2 ⊢
      clear hX3 hbx hown2 hgr2 hc1 hf1 hS1 co1 hx2' hsrc
      have hbX3 := hL2.edits.2 _ _ _ _ (.inl rfl) hbX1
      have hF3 := hL2.edits.2 _ _ _ _ (.inr (.inr rfl)) hF1
      have hx1' := (box3_cell hbX3).2.1
      have ca := hS2.ia.cell
      have fa := hS2.ia.frozen
      have HF := hidep (hS2.setAt ((k1 : Int) + (dn : Int)))
      have HL := hidep (hL1.trans hL2)
      have HB3 := hidep (hB1.trans hL2.below)
      have HF3 := hidep hF3
      have hk1 := HS1.out.2
      clear hbX3 hbX1 hF1 hF3 hS2 hL1 hL2 hB1
      gi_wp2
      have hL4 := HL.out.trans HF.out.2
      refine ⟨hL4.others.from _, hL4.edits, ⟨⟨vk1, .slice a2 (o1.length + ins.length) c2, ?_⟩, HF.out.2.edits.2 _ _ _ _ (.inr (.inr rfl)) HF3.out, HB3.out.trans HF.out.2.below⟩⟩
      rw [HST.out]
      exact HF.out.1
    case stop2 =>
      rintro D2 cd pre X _ _ hf _
      exact hf.elim
    case done2 =>
      rintro D2 ys X hD2 rfl ⟨⟨vk, vo, hS⟩, hF, hB⟩ hK2
      have hfit := fits_fold hl (ys.map (·.1.1)) (fun e he => by obtain ⟨y, _, rfl⟩ := List.mem_map.1 he; exact y.2.1)
      rw [List.length_map] at hfit
      have HE : Hid (keepS base base.length (foldS base (ys.map (·.1.1))) = endS base (L.map (·.1))) := hidep (by
        rw [← HLS.out, List.map_map]; rfl)
      generalize foldS base (ys.map (·.1.1)) = s at *
      have HK2 : Hid (Calls Try.prog 53 #[.int .i64 base.length, .pointer (some ⟨W.heap.size + 1 + 1, 0, none⟩), .pointer (some ⟨W.heap.size + 1, 0, none⟩), .pointer (some ⟨W.heap.size, 0, none⟩), .pointer (some ⟨w.heap.size, 0, none⟩)] X fun e w' => e = .returned (.tuple #[]) ∧
          ∃ vk' vo', KSt W.heap.size (W.heap.size + 1 + 1) (W.heap.size + 1) W.heap.size w' ((keepS base base.length s).k : Nat) (keepS base base.length s).kept (keepS base base.length s).out vk' vo' ∧ Left W.heap.size X w') :=
        hidep (keep_anyB W (W.heap.size + 1 + 1) (W.heap.size + 1) W.heap.size w.heap.size (0, 0) _ base hM.b3 hBase hl base.length s.k (by omega) s.kept s.out vk vo X hB hS (by have := hfit.kept; omega) (by have := hfit.out; omega))
      rw [HE.out] at HK2
      generalize hen : endS base (L.map (·.1)) = en at *
      have HEN := hidep hen
      clear hen HE hfit hS
      obtain ⟨k1, kp1, o1⟩ := en
      simp only at HK2
      have hcF := hF.cell
      have hMX := hM.step hB
      have c3 := hMX.b3.cell
      gi_upto_region 15 with (first
        | (refine ⟨trivial, ?_⟩; gi_at_call 53; refine (callsIn_wide.2 HK2.out).mono ?_; rintro e X1 ⟨rfl, vk1, vo1, hS1, hL1⟩)
        | fail)
      have hB1 := hB.trans hL1.below
      have hM1 := hM.step hB1
      have hK21 := hL1.others.same D2 _ hK2 rfl
      obtain ⟨ao, co, rfl, _, _⟩ := (Rd.of_own hS1.or).form
      obtain ⟨ak, ck, rfl, _, _⟩ := (Rd.of_own hS1.kr).form
      have c9 := hS1.ob.cell
      have c10 := hS1.kb.cell
      have c6 := hM1.b6.cell
      have c7 := hM1.b7.cell
      have c8 := hM1.b8.cell
      have f6 := hM1.b6.frozen
      have f7 := hM1.b7.frozen
      have f8 := hM1.b8.frozen
      clear hcF c3 hMX hF hB HK2
      have hbig : 2048 < o1.length ∨ ¬ 2048 < o1.length := by omega
      rcases hbig with hbig | hbig
      · have HPT := hidep (hM1.put (.slice none 0 0) (.slice none 0 0) 4)
        gi_wp2
        have hDl : D < W.heap.size := lt_of_block hK
        have hwW : w.heap.size ≤ W.heap.size := hM.bw.size
        have hK24 := HPT.out.2.same D2 _ hK21 rfl
        have hKD4 := HPT.out.2.same D _ ((hB1.block D hDl).trans hK) rfl
        have hR1 := HPT.out.1.own (grownBy_putObj' _ D2 (.deferred none)) (n := w.heap.size) (Nat.le_refl _) (fun r e => by cases e; exact ⟨by omega, _, hK24, rfl⟩)
        have hKD5 := (World.putObj_heap_other (w := _) (o := Obj.deferred none) (show D ≠ D2 by omega)).trans hKD4
        have hR2 := hR1.own (grownBy_putObj' _ D (.deferred none)) (n := w.heap.size) (Nat.le_refl _) (fun r e => by cases e; exact ⟨by omega, _, hKD5, rfl⟩)
        refine ⟨by simp, .inl ⟨_, _, rfl, run_takeDeferred hK24, ?_⟩⟩
        refine ⟨by simp, .inl ⟨_, _, rfl, run_takeDeferred hKD5, ?_⟩⟩
        have e6 := hR2.b6.cell
        have e7 := hR2.b7.cell
        have e8 := hR2.b8.cell
        refine ⟨_, results_cells3 rfl _ _ _ rfl rfl rfl (v1 := .slice none 0 0) (v2 := .slice none 0 0) (v3 := .int .i64 4) (by go_simp) (by go_simp) (by go_simp), ?_⟩
        exact ⟨([], [], 4), .inr ⟨HN.out, L, HP.out, HQ.out, by rw [HEN.out]; simp [doneZ, hbig]⟩, _, _, rfl, World.ownsRow_nil _ _ _ _, World.ownsRow_nil _ _ _ _, hR2.bw⟩
      · have hlw := hM.b8.lt
        have HPT : Hid ((MBoxR w (.slice ao o1.length co) (.slice ak kp1.length ck) 0 (((X1.setCell ⟨w.heap.size + 1, 0, none⟩ (.slice ao o1.length co)).setCell ⟨w.heap.size + 1 + 1, 0, none⟩ (.slice ak kp1.length ck)).setCell ⟨w.heap.size + 1 + 1 + 1, 0, none⟩ (.int .i64 0)).drew ∧ KeepsOthers X1 (((X1.setCell ⟨w.heap.size + 1, 0, none⟩ (.slice ao o1.length co)).setCell ⟨w.heap.size + 1 + 1, 0, none⟩ (.slice ak kp1.length ck)).setCell ⟨w.heap.size + 1 + 1 + 1, 0, none⟩ (.int .i64 0)).drew) ∧
            (((X1.setCell ⟨w.heap.size + 1, 0, none⟩ (.slice ao o1.length co)).setCell ⟨w.heap.size + 1 + 1, 0, none⟩ (.slice ak kp1.length ck)).setCell ⟨w.heap.size + 1 + 1 + 1, 0, none⟩ (.int .i64 0)).drew.ownsRow W.heap.size 34 2 (.slice ao o1.length co) o1.length (symsC o1) ∧
            (((X1.setCell ⟨w.heap.size + 1, 0, none⟩ (.slice ao o1.length co)).setCell ⟨w.heap.size + 1 + 1, 0, none⟩ (.slice ak kp1.length ck)).setCell ⟨w.heap.size + 1 + 1 + 1, 0, none⟩ (.int .i64 0)).drew.ownsRow W.heap.size 45 2 (.slice ak kp1.length ck) kp1.length (pairsC kp1)) :=
          have h0 := hM1.put (.slice ao o1.length co) (.slice ak kp1.length ck) 0
          hidep ⟨⟨⟨h0.1.b6, h0.1.b7, h0.1.b8, h0.1.bw.drew⟩, h0.2.trans (KeepsOthers.drew _)⟩, row_put (w := w) hS1.or (by omega) _ _ _, row_put (w := w) hS1.kr (by omega) _ _ _⟩
        gi_wp2
        gi_region
        gi_wp2
        obtain ⟨X4, hX4⟩ : ∃ X4, (((X1.setCell ⟨w.heap.size + 1, 0, none⟩ (.slice ao o1.length co)).setCell ⟨w.heap.size + 1 + 1, 0, none⟩ (.slice ak kp1.length ck)).setCell ⟨w.heap.size + 1 + 1 + 1, 0, none⟩ (.int .i64 0)).drew = X4 := ⟨_, rfl⟩
        rw [hX4] at HPT ⊢
        have HQ1 := HPT.out.2
        have HPT := hidep HPT.out.1
        have hDl : D < W.heap.size := lt_of_block hK
        have hwW : w.heap.size ≤ W.heap.size := hM.bw.size
        have hK24 := HPT.out.2.same D2 _ hK21 rfl
        have hKD4 := HPT.out.2.same D _ ((hB1.block D hDl).trans hK) rfl
        have hR1 := HPT.out.1.own (grownBy_putObj' _ D2 (.deferred none)) (n := w.heap.size) (Nat.le_refl _) (fun r e => by cases e; exact ⟨by omega, _, hK24, rfl⟩)
        have hKD5 := (World.putObj_heap_other (w := _) (o := Obj.deferred none) (show D ≠ D2 by omega)).trans hKD4
        have hR2 := hR1.own (grownBy_putObj' _ D (.deferred none)) (n := w.heap.size) (Nat.le_refl _) (fun r e => by cases e; exact ⟨by omega, _, hKD5, rfl⟩)
        refine ⟨by simp, .inl ⟨_, _, rfl, run_takeDeferred hK24, ?_⟩⟩
        refine ⟨by simp, .inl ⟨_, _, rfl, run_takeDeferred hKD5, ?_⟩⟩
        have e6 := hR2.b6.cell
        have e7 := hR2.b7.cell
        have e8 := hR2.b8.cell
        have q1 := ownsRow_putObj (ownsRow_putObj HQ1.1 (.deferred none) hK24 rfl) (.deferred none) hKD5 rfl
        have q2 := ownsRow_putObj (ownsRow_putObj HQ1.2 (.deferred none) hK24 rfl) (.deferred none) hKD5 rfl
        refine ⟨_, results_cells3 rfl _ _ _ rfl rfl rfl (v1 := .slice ao o1.length co) (v2 := .slice ak kp1.length ck) (v3 := .int .i64 0) (by go_simp) (by go_simp) (by go_simp), ?_⟩
        exact ⟨(o1, kp1, 0), .inr ⟨HN.out, L, HP.out, HQ.out, by rw [HEN.out]; simp [doneZ, hbig]⟩, _, _, rfl, ownR_base0 q1 hwW, ownR_base0 q2 hwW, hR2.bw⟩
set_option maxHeartbeats 2000000 in
theorem merged_anyB (v va vb : Value) (base : List Sym) (a b : List Edit) (w : World) (h : BaseAt w v base) (ha : EditsAt w va a) (hb : EditsAt w vb b) :
    Calls Try.prog 35 #[v, va, vb] w fun e w' => ∃ vo vk, e = .returned (.tuple #[vo, vk, .int .i64 (mergeZ base a b).2.2]) ∧ w'.ownsRow w.heap.size 34 2 vo (mergeZ base a b).1.length (symsC (mergeZ base a b).1) ∧
      w'.ownsRow w.heap.size 45 2 vk (mergeZ base a b).2.1.length (pairsC (mergeZ base a b).2.1) ∧ Below w.heap.size w w' := by
  obtain ⟨av, rfl, hav⟩ := ha.ev
  obtain ⟨bv, rfl, hbv⟩ := hb.ev
  by_cases hall : (isTextB base && validZ base.length (av.map (·.1)) && validZ base.length (bv.map (·.1))) = true
  · have h2 := hall
    simp only [Bool.and_eq_true] at h2
    obtain ⟨⟨h3, h4⟩, h5⟩ := h2
    exact (merged_runB v va vb base av bv w h hav hbv h3 h4 h5).mono (fun e w' hm => merged_ok h3 h4 h5 hm)
  · have hf : (isTextB base && validZ base.length (av.map (·.1)) && validZ base.length (bv.map (·.1))) = false := by simpa using hall
    rw [mergeZ_bad hf]
    obtain ⟨a, c, rfl, hc1, hc2⟩ := h.form
    obtain ⟨aa, ca, rfl, _, _⟩ := hav.form
    obtain ⟨ab, cb, rfl, _, _⟩ := hbv.form
    unfold maxLen at hc2
    have hM0 := MBox.start w (.slice a base.length c)
    have HM := hidep hM0.bw
    have HT := hidep (fun W (hW : Below w.heap.size w W) => mtext_anyB _ base W (h.below hW))
    have HL : Hid (isTextB base = true → base.length ≤ 2048) := hidep isTextB_len0
    have HA := hidep (fun W (hW : Below w.heap.size w W) (hl : base.length ≤ 2048) => mvalid_any _ base.length _ W ((hav.below hW).edits) (by omega) (by omega))
    have HB := hidep (fun W (hW : Below w.heap.size w W) (hl : base.length ≤ 2048) => mvalid_any _ base.length _ W ((hbv.below hW).edits) (by omega) (by omega))
    clear hall h ha hb hav hbv
    generalize isTextB base = t at *
    generalize validZ base.length (av.map (·.1)) = va at *
    generalize validZ base.length (bv.map (·.1)) = vb at *
    have hlen : t = true → base.length ≤ 2048 := HL.out
    cases t
    · go_enter Try.func35, Try.ntmps35
      go_wp2_with (first
        | (go_at_call 52; refine (HT.out _ HM.out).mono ?_; rintro e w1 ⟨rfl, hb1⟩; have hM1 := hM0.step hb1; clear hM0; have c6 := hM1.b6.cell; have c7 := hM1.b7.cell; have c8 := hM1.b8.cell; have f6 := hM1.b6.frozen; have f7 := hM1.b7.frozen; have f8 := hM1.b8.frozen; have HPT := hidep (hM1.put (.slice none 0 0) (.slice none 0 0) 1))
        | fail)
      have hR := HPT.out.1
      have e6 := hR.b6.cell
      have e7 := hR.b7.cell
      have e8 := hR.b8.cell
      refine bodyPost_ret (results_cells3 rfl _ _ _ rfl rfl rfl (v1 := .slice none 0 0) (v2 := .slice none 0 0) (v3 := .int .i64 1) (by go_simp) (by go_simp) (by go_simp)) rfl ?_
      exact ⟨_, _, rfl, World.ownsRow_nil _ _ _ _, World.ownsRow_nil _ _ _ _, hR.bw⟩
    · have hlen := hlen rfl
      have HA := hidep (fun W hW => HA.out W hW hlen)
      have HB := hidep (fun W hW => HB.out W hW hlen)
      cases va
      · go_enter Try.func35, Try.ntmps35
        go_wp2_with (first
          | (go_at_call 52; refine (HT.out _ HM.out).mono ?_; rintro e w1 ⟨rfl, hb1⟩; have hM1 := hM0.step hb1; clear hM0; have c3 := hM1.b3.cell)
          | (go_at_call 40; (with_reducible refine (HA.out _ hM1.bw).mono ?_); rintro e w2 ⟨rfl, hb2⟩; have hM2 := hM1.step hb2; clear hM1 c3; have c6 := hM2.b6.cell; have c7 := hM2.b7.cell; have c8 := hM2.b8.cell; have f6 := hM2.b6.frozen; have f7 := hM2.b7.frozen; have f8 := hM2.b8.frozen; have HPT := hidep (hM2.put (.slice none 0 0) (.slice none 0 0) 1))
          | fail)
        have hR := HPT.out.1
        have e6 := hR.b6.cell
        have e7 := hR.b7.cell
        have e8 := hR.b8.cell
        refine bodyPost_ret (results_cells3 rfl _ _ _ rfl rfl rfl (v1 := .slice none 0 0) (v2 := .slice none 0 0) (v3 := .int .i64 1) (by go_simp) (by go_simp) (by go_simp)) rfl ?_
        exact ⟨_, _, rfl, World.ownsRow_nil _ _ _ _, World.ownsRow_nil _ _ _ _, hR.bw⟩
      · cases vb
        · go_enter Try.func35, Try.ntmps35
          go_wp2_with (first
            | (go_at_call 52; refine (HT.out _ HM.out).mono ?_; rintro e w1 ⟨rfl, hb1⟩; have hM1 := hM0.step hb1; clear hM0; have c3 := hM1.b3.cell)
            | (go_at_call 40; (with_reducible refine (HA.out _ hM1.bw).mono ?_); rintro e w2 ⟨rfl, hb2⟩; have hM2 := hM1.step hb2; clear hM1 c3; have c3 := hM2.b3.cell)
            | (go_at_call 40; (with_reducible refine (HB.out _ hM2.bw).mono ?_); rintro e w3 ⟨rfl, hb3⟩; have hM3 := hM2.step hb3; clear hM2 c3; have c6 := hM3.b6.cell; have c7 := hM3.b7.cell; have c8 := hM3.b8.cell; have f6 := hM3.b6.frozen; have f7 := hM3.b7.frozen; have f8 := hM3.b8.frozen; have HPT := hidep (hM3.put (.slice none 0 0) (.slice none 0 0) 1))
            | fail)
          have hR := HPT.out.1
          have e6 := hR.b6.cell
          have e7 := hR.b7.cell
          have e8 := hR.b8.cell
          refine bodyPost_ret (results_cells3 rfl _ _ _ rfl rfl rfl (v1 := .slice none 0 0) (v2 := .slice none 0 0) (v3 := .int .i64 1) (by go_simp) (by go_simp) (by go_simp)) rfl ?_
          exact ⟨_, _, rfl, World.ownsRow_nil _ _ _ _, World.ownsRow_nil _ _ _ _, hR.bw⟩
        · cases hf
set_option maxHeartbeats 1000000 in
theorem merge_anyB (v va vb : Value) (base : List Sym) (a b : List Edit) (w : World) (h : BaseAt w v base) (ha : EditsAt w va a) (hb : EditsAt w vb b) :
    Calls Try.prog 16 #[v, va, vb] w fun e w' => ∃ vo, e = .returned (.tuple #[vo, .int .i64 (mergeZ base a b).2.2]) ∧ w'.ownsRow w.heap.size 34 2 vo (mergeZ base a b).1.length (symsC (mergeZ base a b).1) ∧ Below w.heap.size w w' := by
  have H := hidep (merged_anyB v va vb base a b w h ha hb)
  clear h ha hb
  generalize mergeZ base a b = r at *
  obtain ⟨r1, r2, r3⟩ := r
  go_enter Try.func16, Try.ntmps16
  go_wp2_with (go_at_call 35; refine H.out.mono ?_; rintro e w1 ⟨vo, vk, rfl, h1, h2, hb1⟩)
  go_ret2
  exact ⟨_, rfl, h1, hb1⟩
set_option maxHeartbeats 1000000 in
theorem kept_anyB (v va vb : Value) (base : List Sym) (a b : List Edit) (w : World) (h : BaseAt w v base) (ha : EditsAt w va a) (hb : EditsAt w vb b) :
    Calls Try.prog 17 #[v, va, vb] w fun e w' => ∃ vk, e = .returned (.tuple #[vk, .int .i64 (mergeZ base a b).2.2]) ∧ w'.ownsRow w.heap.size 45 2 vk (mergeZ base a b).2.1.length (pairsC (mergeZ base a b).2.1) ∧ Below w.heap.size w w' := by
  have H := hidep (merged_anyB v va vb base a b w h ha hb)
  clear h ha hb
  generalize mergeZ base a b = r at *
  obtain ⟨r1, r2, r3⟩ := r
  go_enter Try.func17, Try.ntmps17
  go_wp2_with (go_at_call 35; refine H.out.mono ?_; rintro e w1 ⟨vo, vk, rfl, h1, h2, hb1⟩)
  go_ret2
  exact ⟨_, rfl, h2, hb1⟩
set_option maxRecDepth 100000 in
set_option maxHeartbeats 4000000 in
theorem both34_runB (v va vb : Value) (base : List Sym) (a b : List Edit) (w : World) (h : BaseAt w v base) (ha : EditsAt w va a) (hb : EditsAt w vb b)
    (ht : isTextB base = true) (hva : validZ base.length a = true) (hvb : validZ base.length b = true) : Calls Try.prog 28 #[v, va, vb] w (BothR w base a b) := by
  obtain ⟨ab, cb, rfl, hcb, hmb⟩ := h.form
  obtain ⟨aa, ca, rfl, _, _⟩ := ha.form
  obtain ⟨ae, ce, rfl, _, _⟩ := hb.form
  unfold maxLen at hmb
  have hl := isTextB_len0 ht
  have HT := hidep (text34_anyB _ base w h)
  have HA := hidep (fun W (hW : Below w.heap.size w W) => valid34_any _ base.length a W (ha.below hW) (by omega) (by omega))
  have HB := hidep (fun W (hW : Below w.heap.size w W) => valid34_any _ base.length b W (hb.below hW) (by omega) (by omega))
  have HC := hidep (fun W (hW : Below w.heap.size w W) => pairs34_any _ _ a b W (ha.below hW) (hb.below hW) (validZ_ok (n := base.length) (by omega) hva) (validZ_ok (n := base.length) (by omega) hvb) (clashP_len hva hvb))
  rw [ht] at HT
  rw [hva] at HA
  rw [hvb] at HB
  have HZ : Hid (bothZ base a b = if clashP a b ≠ [] then ([], [], 18) else if 2048 < (finR base a b).out.length then ([], [], 4) else ((finR base a b).out, (finR base a b).kept, 0)) := hidep (by unfold bothZ; rw [ht, hva, hvb, if_neg (by decide)])
  have HBD := hidep (placeR_bd hl hva hvb)
  have HED := hidep (edAt_bd hl hva hvb)
  have H0 := hidep h
  have HEA := hidep (fun W (hW : Below w.heap.size w W) p => at34_form _ a p W (ha.below hW))
  have HEB := hidep (fun W (hW : Below w.heap.size w W) p => at34_form _ b p W (hb.below hW))
  clear h ha hb ht hva hvb
  go_enter Try.func28, Try.ntmps28
  go_upto_region 3 with (first
    | (go_at_call 49; refine HT.out.mono ?_; rintro e w1 ⟨rfl, rfl⟩)
    | (go_at_call 24; (with_reducible refine (HA.out _ (Below.refl _ _)).mono ?_); clear HA; rintro e w2 ⟨rfl, hb2⟩)
    | (go_at_call 24; (with_reducible refine (HB.out _ hb2).mono ?_); rintro e w3 ⟨rfl, hb3⟩; have hb13 := hb2.trans (hb3.mono hb2.size); clear hb2 hb3)
    | fail)
  by_cases hcl : clashP a b = []
  · rw [if_neg (by simp [hcl])] at HZ
    rw [hcl] at HC
    go_upto_region 5 with (first
      | (go_at_call 50; (with_reducible refine (HC.out _ hb13).mono ?_); rintro e w4 ⟨vo, rfl, ho4, hb4⟩; obtain ⟨a4, c4, rfl, _, _⟩ := (Rd.of_own ho4).form; simp only [List.length_nil] at ho4 ⊢)
      | fail)
    have HW4 := hidep (hb13.trans (hb4.mono hb13.size))
    clear ho4 hb4 hb13 HT HB HC hcl
    obtain ⟨w0, hw0⟩ : ∃ w0 : World, w0 = w4 := ⟨_, rfl⟩
    subst hw0
    go_wp2
    go_loopg [9, 10, 11, 12] (base.length + 1) (fun g o kp sk i wr => ∃ k : Nat, k ≤ base.length ∧ base.length + 1 - k = g ∧ i = .int .i64 k ∧ sk = .int .i64 (placeR base a b k).skip ∧ wr.ownsRow w0.heap.size 34 2 o (placeR base a b k).out.length (symsC (placeR base a b k).out) ∧
      wr.ownsRow w0.heap.size 45 2 kp (placeR base a b k).kept.length (pairsC (placeR base a b k).kept) ∧ Below w0.heap.size w0 wr)
    case atStart => exact ⟨0, by omega, by omega, rfl, rfl, World.ownsRow_nil _ _ _ _, World.ownsRow_nil _ _ _ _, Below.refl _ _⟩
    case round =>
      obtain ⟨k, hk, hg, rfl, rfl, ho, hkp, hbw⟩ := hrel
      have HG := hidep hg
      have HS1 : Hid (placeR base a b (k + 1) = keepR base k (insR (edAt a b k) (placeR base a b k))) := hidep rfl
      have HF : Hid (k = base.length → finR base a b = insR (edAt a b k) (placeR base a b k)) := hidep (fun e => by subst e; rfl)
      obtain ⟨b1, b2, b3, b4⟩ := HBD.out k
      have HXD := hidep (HED.out k)
      have HIB := hidep (H0.out.below (HW4.out.trans (hbw.mono HW4.out.size)))
      clear hg
      generalize placeR base a b k = s at *
      obtain ⟨sk, kp, ou⟩ := s
      simp only at ho hkp b1 b2 b3 b4
      obtain ⟨wo, hwo⟩ : ∃ wo : World, wo = wr := ⟨_, rfl⟩
      subst hwo
      have hW0 := hidep (HW4.out.trans (hbw.mono HW4.out.size))
      have hkl : (k : Int) ≤ (base.length : Int) := by omega
      go_upto_if 50 with (first
        | (go_at_call 51; (with_reducible refine (HEA.out _ hW0.out _).mono ?_); rintro e w1 ⟨p1, d1, i1, a1, c1, sb1, rfl, HB1, HX1, hs1, hb1⟩)
        | fail)
      have HOb := hidep (edAt_there (a := a) (b := b) (p := (k : Int)))
      have HOa := hidep (fun x => edAt_here (a := a) (b := b) (p := (k : Int)) (x := x))
      go_cut [13, 14] (fun s13 s14 wc => ∃ (b13 : Nat) (p2 d2 : Int) (i2 : List Sym) (a2 : Option Addr) (c2 : Nat), s13 = .pointer (some ⟨b13, 0, none⟩) ∧ s14 = .bool (edAt a b k).isSome ∧ Hid ((edAt a b k).getD zeroE = ⟨p2, d2, i2⟩) ∧ wc.heap[b13]? = some (.cells #[.int .i64 p2, .int .i64 d2, .slice a2 i2.length c2] 36 (0, 0)) ∧ SymsAt wc (.slice a2 i2.length c2) i2 ∧ Below wo.heap.size wo wc)
      case first =>
        have HN1 := hidep (heap_alloc_new w1 (.cells #[.int .i64 p1, .int .i64 d1, .slice a1 i1.length c1] 36))
        have hA1 := hidep (show Below w1.heap.size w1 (w1.alloc (.cells #[.int .i64 p1, .int .i64 d1, .slice a1 i1.length c1] 36)) from (Below.refl _ _).alloc (Nat.le_refl _) _)
        cases sb1
        · have HOb' := hidep (HOb.out HB1.out)
          have HBC := hidep (fun W (hW : Below w1.heap.size w1 W) => HEB.out W (hW0.out.trans ((hb1.trans (hW.mono hb1.size)).mono hW0.out.size)) (k : Int))
          clear HOa HOb HEA HEB hs1
          generalize findE b (k : Int) = ob at *
          go_wp2_with (first
            | (go_at_call 51; (with_reducible refine (HBC.out _ hA1.out).mono ?_); rintro e w2 ⟨p2, d2, i2, a2, c2, sb2, rfl, HB2, HX2, hs2, hb2⟩; have h13 := (hb2.block _ (by simp)).trans HN1.out; obtain ⟨q0, q1, q2⟩ := box3_cell h13; have f0 := box_free0 (o := 0) h13; have f1 := box_free0 (o := 1) h13; have f2 := box_free0 (o := 2) h13; have HH := hidep h13; have hl13 := lt_of_block h13; clear h13)
            | fail)
          go_meet
          refine ⟨w1.heap.size, p2, d2, i2, a2, c2, rfl, by rw [HOb'.out, HB2.out], by rw [HOb'.out]; exact HX2, ?_, ?_, ?_⟩
          · exact box3_set3 HH.out
          · have hk3 : Keeps (fun t => t = 34) w2 (((w2.setCell ⟨w1.heap.size, 0, none⟩ (.int .i64 p2)).setCell ⟨w1.heap.size, 1, none⟩ (.int .i64 d2)).setCell ⟨w1.heap.size, 2, none⟩ (.slice a2 i2.length c2)) := by
              have hne : ∀ {b : Nat} {cur : Array Value} {fz : Nat × Nat}, w2.heap[b]? = some (.cells cur 34 fz) → b ≠ w1.heap.size := fun h e => by have h4 := HH.out; subst e; rw [h] at h4; simp at h4
              refine ⟨by simp [World.setCell], fun b cur t fz ht hb => ?_⟩
              subst ht
              rw [Below.heap_setCell _ _ _ _ (hne hb), Below.heap_setCell _ _ _ _ (hne hb), Below.heap_setCell _ _ _ _ (hne hb)]
              exact hb
            exact SymsAt.keeps hs2 hk3 rfl
          · have h12 := hb1.trans ((hA1.out.trans (hb2.mono (by simp))).mono hb1.size)
            exact (((h12.setCell (p := ⟨w1.heap.size, 0, none⟩) hb1.size _).setCell (p := ⟨w1.heap.size, 1, none⟩) hb1.size _).setCell (p := ⟨w1.heap.size, 2, none⟩) hb1.size _)
        · have HOa' := hidep (HOa.out _ HX1.out HB1.out)
          clear HOa HOb
          go_wp2
          go_meet
          exact ⟨w1.heap.size, p1, d1, i1, a1, c1, rfl, by rw [HOa'.out]; rfl, by rw [HOa'.out]; exact hidep rfl, HN1.out, hs1.below hA1.out, hb1.trans (hA1.out.mono hb1.size)⟩
      case rest =>
        obtain ⟨b13, p2, d2, i2, a2, c2, rfl, rfl, HX, h13, hs2, hbc⟩ := hcut
        have hl13 := lt_of_block h13
        obtain ⟨q0, q1, q2⟩ := box3_cell h13
        have HH := hidep h13
        have hoc := ownR_below0 ho hbc
        have hkc := ownR_below0 hkp hbc
        have hbwc := hbw.trans (hbc.mono hbw.size)
        clear h13 HOa HOb HX1 hs1 hb1 HEA HEB ho hkp
        generalize edAt a b (k : Int) = oe at *
        obtain ⟨w1, hw1⟩ : ∃ w1 : World, w1 = wc := ⟨_, rfl⟩
        subst hw1
        obtain ⟨ao, co, rfl, hco, hmo⟩ := (Rd.of_own hoc).form
        obtain ⟨ak, ck, rfl, hck, hmk⟩ := (Rd.of_own hkc).form
        unfold maxLen at hmo hmk
        go_upto_if 57 with (fail)
        go_cut [9, 11] (fun s9 s11 wd => s11 = .int .i64 (insR oe ⟨sk, kp, ou⟩).skip ∧ wd.ownsRow w0.heap.size 34 2 s9 (insR oe ⟨sk, kp, ou⟩).out.length (symsC (insR oe ⟨sk, kp, ou⟩).out) ∧ wd.ownsRow w0.heap.size 45 2 (.slice ak kp.length ck) kp.length (pairsC kp) ∧ Below w0.heap.size w0 wd)
        case first =>
          cases oe with
          | none =>
            go_wp2
            go_meet
            exact ⟨rfl, hoc, hkc, hbwc⟩
          | some x =>
            have hx : x = ⟨p2, d2, i2⟩ := HX.out
            subst hx
            obtain ⟨x1, x2, x3⟩ := HXD.out _ rfl
            simp only at x1 x2 x3
            have hs2' := hs2
            have HAP := hidep (fun (W : World) (hg : w1.grownBy W (Value.slice ao ou.length co).ownBlock) => own_apart hoc hkc (by decide) hg)
            have HK := hidep (fun (W : World) (hg : w1.grownBy W (Value.slice ao ou.length co).ownBlock) => (Keeps.grown (T := fun t => t = 36) hoc hg (fun t ht e => by rw [ht] at e; exact absurd e (by decide))).2 b13 _ _ _ rfl HH.out)
            go_wp2_with (first
              | (at_builtin; refine wpList_append_rd _ rfl (.tmp 58) (.tmp 60) rfl slSyms w0.heap.size (.slice ao ou.length co) _ _ rfl hoc _ _ _ _ rfl hs2' (symsC_one _) (by unfold maxLen; omega) (by omega) hbwc.size ?_; intro v2 w2 hown2 hgr2 hat hnl; clear hat hnl; obtain ⟨e0, e1, e2⟩ := box3_cell (HK.out _ hgr2); have he13 := lt_of_block (HK.out _ hgr2))
              | fail)
            go_meet
            exact ⟨rfl, (by simp only [insR]; rw [symsC_append, List.length_append]; exact hown2), HAP.out _ hgr2, hbwc.grown hgr2 hbwc.size (fun g hg => (hoc.lt g hg).1)⟩
        case rest =>
          obtain ⟨rfl, hod, hkd, hbwd⟩ := hcut
          obtain ⟨wd, hwd⟩ : ∃ wd : World, wd = wc := ⟨_, rfl⟩
          subst hwd
          obtain ⟨n1, n2, n3, n4⟩ := insR_bd2 (o := oe) HXD.out (sk := sk) (kp := kp) (ou := ou) b1 b2
          have HIB2 := hidep (H0.out.below (HW4.out.trans (hbwd.mono HW4.out.size)))
          clear HX HXD hs2 q0 q1 q2 HH hl13 hoc hkc hbwc hco hmo
          generalize insR oe ⟨sk, kp, ou⟩ = s2 at *
          obtain ⟨sk2, kp2, ou2⟩ := s2
          simp only at hod n1 n2 n3 n4
          subst n3
          obtain ⟨ao, co, rfl, hco, hmo⟩ := (Rd.of_own hod).form
          unfold maxLen at hmo
          by_cases hke : k = base.length
          · have HFI := hidep (HF.out hke)
            rw [HFI.out] at HZ
            subst hke
            have hE := hidep hod
            have hF := hidep hkd
            have hB := hidep hbwd
            clear hod hkd hbwd
            by_cases h48 : 2048 < ou2.length
            · rw [if_pos h48] at HZ
              have h48' : (2048 : Int) < (ou2.length : Int) := by omega
              go_wp2
              go_ret3
              exact ⟨_, _, by rw [HZ.out] <;> rfl, by rw [HZ.out]; exact SymsAt.nil _, by rw [HZ.out]; exact Rd.nil _ _ _, HW4.out.trans (hB.out.mono HW4.out.size)⟩
            · rw [if_neg h48] at HZ
              have h48' : (ou2.length : Int) ≤ 2048 := by omega
              go_wp2
              go_ret3
              exact ⟨_, _, by rw [HZ.out] <;> rfl, by rw [HZ.out]; exact SymsAt.of_own hE.out, by rw [HZ.out]; exact Rd.of_own hF.out, HW4.out.trans (hB.out.mono HW4.out.size)⟩
          · have hke' : ¬ (k : Int) = (base.length : Int) := by omega
            have hkl2 : k < base.length := by omega
            by_cases hsk : 0 < sk2
            · have HS2 : Hid (placeR base a b (k + 1) = ⟨sk2 - 1, kp, ou2⟩) := hidep (by rw [HS1.out]; unfold keepR; rw [if_pos hsk])
              go_wp2
              go_roundg (base.length + 1 - (k + 1))
              case measure => have := HG.out; omega
              case rel => exact ⟨k + 1, by omega, rfl, by go_num, by rw [HS2.out], by rw [HS2.out]; exact hod, by rw [HS2.out]; exact hkd, hbwd⟩
            · have HS2 : Hid (placeR base a b (k + 1) = ⟨sk2, kp ++ [(k, ou2.length)], ou2 ++ [base[k]]⟩) := hidep (by rw [HS1.out]; unfold keepR; rw [if_neg hsk]; simp only; rw [take_one hkl2])
              have HOS := hidep (fun (W : World) (hg : (wd.alloc (.cells #[.int .i64 (k : Nat), .int .i64 (ou2.length : Nat)] 45)).grownBy W (Value.slice ak kp.length ck).ownBlock) => own_apart (hkd.alloc _) (hod.alloc _) (by decide) hg)
              have hbw1 := hidep (hbwd.alloc hbwd.size (.cells #[.int .i64 (k : Nat), .int .i64 (ou2.length : Nat)] 45))
              have hkd0 := hkd.alloc (.cells #[.int .i64 (k : Nat), .int .i64 (ou2.length : Nat)] 45)
              have HKL := hidep (fun g hg => (hkd.lt g hg).1)
              have hfr := Rd.fresh wd #[.int .i64 (k : Nat), .int .i64 (ou2.length : Nat)] 45 2 1 rfl (by decide)
              have hob : kp.length ≤ 2048 := by omega
              have hou : ou2.length ≤ 140000 := by omega
              have hkI : 0 ≤ (k : Int) := by omega
              have hkI2 : (k : Int) < (base.length : Int) := by omega
              clear hod hkd b4 n4
              go_upto_region 21 with (first
                | (at_builtin; refine wpList_append_rd _ rfl (.tmp 72) (.tmp 77) rfl slPair w0.heap.size (.slice ak kp.length ck) _ _ rfl hkd0 _ _ _ _ rfl hfr (by intro u hu; simp at hu; rcases hu with rfl | rfl <;> rfl) (by unfold maxLen; omega) (by omega) (by have := hbw1.out.size; omega) ?_; intro v3 w5 hown3 hgr3 hat hnl; clear hat hnl hfr hkd0; have hod := HOS.out _ hgr3; have hbw5 := hbw1.out.grown hgr3 hbw1.out.size HKL.out; have hsb := H0.out.below (HW4.out.trans (hbw5.mono HW4.out.size)))
                | fail)
              obtain ⟨bb, obb, rfl, hbb, hx0, hx1⟩ := hsb.at hkl2
              generalize base[k] = y at *
              obtain ⟨ylang, yc⟩ := y
              simp only at hx0 hx1
              have hod0 := hod.alloc (.cells #[.int .i64 ylang, .int .u8 yc] 34)
              have hfr := Rd.fresh w5 #[.int .i64 ylang, .int .u8 yc] 34 2 1 rfl (by decide)
              have hkd5 := hown3.alloc (.cells #[.int .i64 ylang, .int .u8 yc] 34)
              have hbw6 := hidep (hbw5.alloc hbw5.size (.cells #[.int .i64 ylang, .int .u8 yc] 34))
              have HH3 := hidep hown3
              clear hown3
              go_wp2_with (first
                | (at_builtin; refine wpList_append_rd _ rfl (.tmp 79) (.tmp 84) rfl slSyms w0.heap.size (.slice ao ou2.length co) _ _ rfl hod0 _ _ _ _ rfl hfr (by intro u hu; simp at hu; rcases hu with rfl | rfl <;> rfl) (by unfold maxLen; omega) (by omega) (by have := hbw6.out.size; omega) ?_; intro v4 w6 hown4 hgr4 hat hnl; clear hat hnl hfr)
                | fail)
              have hkd6 := own_apart hod0 hkd5 (by decide) hgr4
              have hbw7 := hbw6.out.grown hgr4 hbw6.out.size (fun g hg => (hod.lt g hg).1)
              go_roundg (base.length + 1 - (k + 1))
              case measure => have := HG.out; omega
              case rel => exact ⟨k + 1, by omega, rfl, by go_num, by rw [HS2.out], by rw [HS2.out]; simp only; rw [symsC_append, List.length_append]; exact hown4, by rw [HS2.out]; simp only; rw [pairsC_append, List.length_append]; exact hkd6, hbw7⟩
  · rw [if_pos hcl] at HZ
    have hpos : 0 < (clashP a b).length := List.length_pos_iff.2 hcl
    generalize clashP a b = L at *
    have hpos' : (0 : Int) < (L.length : Int) := by omega
    go_wp2_with (first
      | (go_at_call 50; (with_reducible refine (HC.out _ hb13).mono ?_); rintro e w4 ⟨vo, rfl, ho4, hb4⟩; obtain ⟨a4, c4, rfl, _, _⟩ := (Rd.of_own ho4).form)
      | fail)
    go_ret3
    exact ⟨_, _, by rw [HZ.out] <;> rfl, by rw [HZ.out]; exact SymsAt.nil _, by rw [HZ.out]; exact Rd.nil _ _ _, hb13.trans (hb4.mono hb13.size)⟩
set_option maxRecDepth 100000 in
set_option maxHeartbeats 1000000 in
theorem both34_anyB (v va vb : Value) (base : List Sym) (a b : List Edit) (w : World) (h : BaseAt w v base) (ha : EditsAt w va a) (hb : EditsAt w vb b) :
    Calls Try.prog 28 #[v, va, vb] w fun e w' => ∃ vo vk, e = .returned (.tuple #[vo, vk, .int .i64 (mergeZ base a b).2.2]) ∧ SymsAt w' vo (mergeZ base a b).1 ∧ PairsAt w' vk (mergeZ base a b).2.1 ∧ Below w.heap.size w w' := by
  by_cases hall : (isTextB base && validZ base.length a && validZ base.length b) = true
  · have h2 := hall
    simp only [Bool.and_eq_true] at h2
    have h3 := both34_runB v va vb base a b w h ha hb h2.1.1 h2.1.2 h2.2
    unfold BothR at h3
    rw [bothZ_eq] at h3
    exact h3
  · have hf : (isTextB base && validZ base.length a && validZ base.length b) = false := by simpa using hall
    have HZ : Hid (mergeZ base a b = ([], [], 1)) := hidep (mergeZ_bad hf)
    obtain ⟨ab, cb, rfl, _, _⟩ := h.form
    obtain ⟨aa, ca, rfl, _, _⟩ := ha.form
    obtain ⟨ae, ce, rfl, _, _⟩ := hb.form
    have HT := hidep (text34_anyB _ base w h)
    cases ht : isTextB base
    · rw [ht] at HT
      clear hall hf h ha hb ht
      go_enter Try.func28, Try.ntmps28
      go_wp2_with (first
        | (go_at_call 49; refine HT.out.mono ?_; rintro e w1 ⟨rfl, rfl⟩)
        | fail)
      go_ret3
      exact ⟨_, _, by rw [HZ.out] <;> rfl, by rw [HZ.out]; exact SymsAt.nil _, by rw [HZ.out]; exact Rd.nil _ _ _, Below.refl _ _⟩
    · have hl := isTextB_len0 ht
      have HA := hidep (fun W (hW : Below w.heap.size w W) => valid34_any _ base.length a W (ha.below hW) (by omega) (by omega))
      have HB := hidep (fun W (hW : Below w.heap.size w W) => valid34_any _ base.length b W (hb.below hW) (by omega) (by omega))
      rw [ht] at HT hf
      clear hall h ha hb ht
      cases hva : validZ base.length a
      · rw [hva] at HA
        clear hf hva
        go_enter Try.func28, Try.ntmps28
        go_wp2_with (first
          | (go_at_call 49; refine HT.out.mono ?_; rintro e w1 ⟨rfl, rfl⟩)
          | (go_at_call 24; (with_reducible refine (HA.out _ (Below.refl _ _)).mono ?_); clear HA; rintro e w2 ⟨rfl, hb2⟩)
          | fail)
        go_ret3
        exact ⟨_, _, by rw [HZ.out] <;> rfl, by rw [HZ.out]; exact SymsAt.nil _, by rw [HZ.out]; exact Rd.nil _ _ _, hb2⟩
      · cases hvb : validZ base.length b
        · rw [hva] at HA
          rw [hvb] at HB
          clear hf hva hvb
          go_enter Try.func28, Try.ntmps28
          go_wp2_with (first
            | (go_at_call 49; refine HT.out.mono ?_; rintro e w1 ⟨rfl, rfl⟩)
            | (go_at_call 24; (with_reducible refine (HA.out _ (Below.refl _ _)).mono ?_); clear HA; rintro e w2 ⟨rfl, hb2⟩)
            | (go_at_call 24; (with_reducible refine (HB.out _ hb2).mono ?_); rintro e w3 ⟨rfl, hb3⟩; have hb13 := hb2.trans (hb3.mono hb2.size); clear hb2 hb3)
            | fail)
          go_ret3
          exact ⟨_, _, by rw [HZ.out] <;> rfl, by rw [HZ.out]; exact SymsAt.nil _, by rw [HZ.out]; exact Rd.nil _ _ _, hb13⟩
        · rw [hva, hvb] at hf
          cases hf
set_option maxRecDepth 100000 in
set_option maxHeartbeats 4000000 in
theorem all_anyB (v va vb : Value) (base : List Sym) (a b : List Edit) (w : World) (h : BaseAt w v base) (ha : EditsAt w va a) (hb : EditsAt w vb b) :
    Calls Try.prog 12 #[v, va, vb] w fun e w' => e = .returned (.bool true) ∧ Below w.heap.size w w' := by
  have HM := hidep (merge_anyB v va vb base a b w h ha hb)
  have HK := hidep (fun W (hW : Below w.heap.size w W) => kept_anyB v va vb base a b W (h.below hW) (ha.below hW) (hb.below hW))
  have HB := hidep (fun W (hW : Below w.heap.size w W) => both34_anyB v va vb base a b W (h.below hW) (ha.below hW) (hb.below hW))
  have HV : Hid (∀ W, Below w.heap.size w W → Calls Try.prog 22 #[va, vb] W fun e w' => ∃ v, e = .returned (.tuple #[v, .int .i64 (moveZ a b).2]) ∧ EditsAt w' v (moveZ a b).1 ∧ Below W.heap.size W w') := hidep (fun W (hW : Below w.heap.size w W) => move_any va vb a b W (ha.below hW) (hb.below hW))
  have HV3 : Hid (∀ W, Below w.heap.size w W → Calls Try.prog 29 #[va, vb] W fun e w' => ∃ v, e = .returned (.tuple #[v, .int .i64 (moveZ a b).2]) ∧ EditsAt w' v (moveZ a b).1 ∧ Below W.heap.size W w') := hidep (fun W (hW : Below w.heap.size w W) => move34_any va vb a b W (ha.below hW) (hb.below hW))
  have HC := hidep (fun W (hW : Below w.heap.size w W) => mClash_any va vb a b W (ha.below hW) (hb.below hW))
  have HC3 := hidep (fun W (hW : Below w.heap.size w W) => clash34_any va vb a b W (ha.below hW) (hb.below hW))
  clear h ha hb
  generalize mergeZ base a b = r at *
  obtain ⟨r1, r2, r3⟩ := r
  generalize moveZ a b = m at *
  obtain ⟨m1, m2⟩ := m
  generalize clashZ a b = z at *
  simp only at HM HK HB HV HV3
  go_enter Try.func12, Try.ntmps12
  go_upto_region 6 with (first
    | (go_at_call 16; refine HM.out.mono ?_; rintro e w1 ⟨x1, rfl, hx1, hb1⟩; have hs1 := SymsAt.of_own hx1; clear hx1)
    | (go_at_call 17; refine (HK.out _ hb1).mono ?_; rintro e w2 ⟨x2, rfl, hx2, hb2⟩; have hs2 : PairsAt w2 x2 r2 := Rd.of_own hx2; have hs1 := hs1.below hb2; have hb12 := hb1.trans (hb2.mono hb1.size); clear hx2)
    | (go_at_call 28; refine (HB.out _ hb12).mono ?_; rintro e w3 ⟨x3, x4, rfl, hs3, hs4, hb3⟩; have hs1 := hs1.below hb3; have hs2 := hs2.below hb3; have hb13 := hb12.trans (hb3.mono hb12.size))
    | (go_at_call 22; refine (HV.out _ hb13).mono ?_; rintro e w4 ⟨x5, rfl, hs5, hb4⟩; have hs1 := hs1.below hb4; have hs2 := hs2.below hb4; have hs3 := hs3.below hb4; have hs4 := hs4.below hb4; have hb14 := hb13.trans (hb4.mono hb13.size))
    | (go_at_call 29; refine (HV3.out _ hb14).mono ?_; rintro e w5 ⟨x6, rfl, hs6, hb5⟩; have hs1 := hs1.below hb5; have hs2 := hs2.below hb5; have hs3 := hs3.below hb5; have hs4 := hs4.below hb5; have hs5 := hs5.below hb5; have hb15 := hb14.trans (hb5.mono hb14.size))
    | fail)
  have HS1 := hidep (sameSyms_any x1 x3 r1 r1 w5 hs1 hs3)
  have HS2 := hidep (fun n => samePairs_any x2 x4 r2 r2 (w5.drewN n) (hs2.below (below_drewN (Below.refl _ _) n)) (hs4.below (below_drewN (Below.refl _ _) n)))
  have HS3 := hidep (fun n => sameAll_any x5 x6 m1 m1 (w5.drewN n) (hs5.below (below_drewN (Below.refl _ _) n)) (hs6.below (below_drewN (Below.refl _ _) n)))
  have hd1 : decide (r1 = r1) = true := decide_eq_true rfl
  have hd2 : decide (r2 = r2) = true := decide_eq_true rfl
  have hd3 : decide (m1 = m1) = true := decide_eq_true rfl
  have hd4 : decide (z = z) = true := decide_eq_true rfl
  rw [hd1] at HS1
  rw [hd2] at HS2
  rw [hd3] at HS3
  have HB15 := hidep hb15
  clear hs1 hs2 hs3 hs4 hs5 hs6 hb15 HM HK HB HV HV3 hb1 hb2 hb3 hb4 hb5 hb12 hb13 hb14 hd1 hd2 hd3
  have HD4 := hidep hd4
  clear hd4
  go_wp2_with (first
    | (go_at_call 20; refine HS1.out.mono ?_; rintro e w6 ⟨rfl, n6, rfl⟩)
    | (go_at_call 30; refine (HS2.out _).mono ?_; clear HS2; rintro e w7 ⟨rfl, n7, rfl⟩)
    | (go_at_call 31; refine (HS3.out _).mono ?_; rintro e w8 ⟨rfl, hb8⟩; have hb18 := below_thru HB15.out _ hb8)
    | (go_at_call 21; refine (HC.out _ hb18).mono ?_; rintro e w9 ⟨y1, rfl, ho1, hb9⟩; have hp1 : PairsAt w9 y1 z := Rd.of_own ho1; have hb19 := hb18.trans (hb9.mono hb18.size); clear ho1)
    | (go_at_call 32; refine (HC3.out _ hb19).mono ?_; rintro e w10 ⟨y2, rfl, ho2, hb10⟩; have hp2 : PairsAt w10 y2 z := Rd.of_own ho2; have hp1 := hp1.below hb10; have hb20 := hb19.trans (hb10.mono hb19.size); clear ho2)
    | (go_at_call 30; refine (samePairs_same _ _ z _ hp1 hp2).mono ?_; rintro e w11 ⟨rfl, n11, rfl⟩)
    | fail)
  go_ret
  exact ⟨rfl, below_drewN hb20 _⟩
end Go.Proofs.Ythdafajhohdkoaa
