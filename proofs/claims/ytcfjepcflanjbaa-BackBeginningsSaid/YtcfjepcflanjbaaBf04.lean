/- Contracts (2): a rule is right, on both sides (printed by a program). -/
import Derived.Test.YtcfjepcflanjbaaBf03
import Derived.RangeFuncNested
import Derived.RangeFuncLeaves
import Derived.RangeFuncCalls
import Derived.RangeFuncBound
import Derived.RangeFuncWrites
import Derived.RangeFuncBox
import Derived.Test.YtcfjepcflanjbaaBf01
import Derived.OrdersIn
import Derived.OrdersHeld
import Derived.Deep.RegionHeld3
import Derived.TacticsIn
namespace Go.Proofs.Ytcfjepcflanjbaa
open Go.RowKit Go.Lab Go.Shelf
set_option maxHeartbeats 2000000 in
theorem rightT_any (r : RuleZ) (u : Value) (w : World) (hu : BysAt w u r.cells) (hs : r.text.size ≤ 100000) :
    Calls Try.prog 33 #[.agg #[.string r.text, .int .i64 r.wh, u]] w fun e w' => e = .returned (.bool (rightB r)) ∧ Below w.heap.size w w' := by
  obtain ⟨s, wh, cl⟩ := r
  simp only at hu hs ⊢
  obtain ⟨ua, uc, rfl, hn2, hn3⟩ := hu.1.form
  obtain ⟨cb, hcb⟩ : ∃ cb, cb = cellsB cl 1 4 := ⟨_, rfl⟩
  obtain ⟨lw, hlw⟩ : ∃ lw, lw = lowsB s := ⟨_, rfl⟩
  obtain ⟨mk, hmk⟩ : ∃ mk, mk = markB ⟨s, wh, cl⟩ := ⟨_, rfl⟩
  have HB := hidep (show rightB ⟨s, wh, cl⟩ = (decide (1 ≤ s.size) && (decide (s.size ≤ 8) && (decide (0 ≤ wh) && (decide (wh ≤ 3) && (cb && (lw || mk)))))) from by rw [hcb, hlw, hmk]; rfl)
  have HI := hidep (fun Y (hY : Below w.heap.size w Y) => indicator_any _ cl Y (hu.below hY))
  have HW := hidep (fun Y => word_any s Y hs)
  rw [← hcb] at HI
  rw [← hlw] at HW
  obtain ⟨n, hn⟩ : ∃ n, n = cl.length := ⟨_, rfl⟩
  rw [← hn] at HI ⊢
  have hbx := (Below.refl w.heap.size w).alloc (Nat.le_refl _) (.cells #[.string s, .int .i64 wh, .slice ua n uc] 51)
  have HBX := hidep hbx
  clear hcb hlw hu hn hn2 hn3 hbx
  by_cases h1 : 1 ≤ s.size
  case neg =>
    have g1 : (s.size : Int) < 1 := by omega
    have HF := hidep (HB.out.trans (by rw [decide_eq_false h1, Bool.false_and] : _ = false))
    clear hmk
    go_enter Try.func33, Try.ntmps33
    go_wp2
    go_ret
    exact ⟨by rw [HF.out]; rfl, HBX.out⟩
  have g1 : ¬ (s.size : Int) < 1 := by omega
  by_cases h2 : s.size ≤ 8
  case neg =>
    have g2 : (s.size : Int) > 8 := by omega
    have HF := hidep (HB.out.trans (by rw [decide_eq_false h2, Bool.false_and, Bool.and_false] : _ = false))
    clear hmk
    go_enter Try.func33, Try.ntmps33
    go_wp2
    go_ret
    exact ⟨by rw [HF.out]; rfl, HBX.out⟩
  have g2 : ¬ (s.size : Int) > 8 := by omega
  by_cases h3 : 0 ≤ wh
  case neg =>
    have g3 : wh < 0 := by omega
    have HF := hidep (HB.out.trans (by rw [decide_eq_false h3, Bool.false_and, Bool.and_false, Bool.and_false] : _ = false))
    clear hmk
    go_enter Try.func33, Try.ntmps33
    go_wp2
    go_ret
    exact ⟨by rw [HF.out]; rfl, HBX.out⟩
  have g3 : ¬ wh < 0 := by omega
  by_cases h4 : wh ≤ 3
  case neg =>
    have g4 : wh > 3 := by omega
    have HF := hidep (HB.out.trans (by rw [decide_eq_false h4, Bool.false_and, Bool.and_false, Bool.and_false, Bool.and_false] : _ = false))
    clear hmk
    go_enter Try.func33, Try.ntmps33
    go_wp2
    go_ret
    exact ⟨by rw [HF.out]; rfl, HBX.out⟩
  have g4 : ¬ wh > 3 := by omega
  have HB2 := hidep (HB.out.trans (by rw [decide_eq_true h1, decide_eq_true h2, decide_eq_true h3, decide_eq_true h4]; rfl : _ = (cb && (lw || mk))))
  cases cb with
  | false =>
    have HF := hidep (HB2.out.trans (by rfl : _ = false))
    clear hmk HB HB2
    go_enter Try.func33, Try.ntmps33
    go_wp2_with (go_at_call 30; refine (HI.out _ HBX.out).mono ?_; rintro e w1 ⟨rfl, rfl⟩)
    go_ret
    exact ⟨by rw [HF.out]; rfl, HBX.out⟩
  | true =>
    have hs0 : 0 < s.size := by omega
    have hat := byts_at s 0 hs0 (by rw [byts_len]; exact hs0)
    obtain ⟨c, hc⟩ : ∃ c, c = (byts s)[0]'(by rw [byts_len]; exact hs0) := ⟨_, rfl⟩
    have hhd : headC s = c := by
      unfold headC
      rw [hc, List.headD_eq_head?_getD, List.head?_eq_getElem?, List.getElem?_eq_getElem (by rw [byts_len]; exact hs0)]
      rfl
    have hcr := byts_rng s c (by rw [hc]; exact List.getElem_mem _)
    rw [← hc] at hat
    clear hc
    cases lw with
    | true =>
      have HF := hidep (HB2.out.trans (by rfl : _ = true))
      clear hmk HB HB2
      go_enter Try.func33, Try.ntmps33
      go_wp2_with (first
        | (go_at_call 30; refine (HI.out _ HBX.out).mono ?_; rintro e w1 ⟨rfl, rfl⟩)
        | (go_at_call 55; refine (HW.out _).mono ?_; rintro e w2 ⟨rfl, rfl⟩)
        | fail)
      go_ret
      exact ⟨by rw [HF.out]; rfl, HBX.out⟩
    | false =>
      have hB3 := HB2.out.trans (by rfl : _ = mk)
      have hmk2 : mk = (decide (s.size = 1) && (charB c && (!lowB c && (!capB c && (!digB c && decide (wh = 0)))))) := by
        rw [hmk]
        unfold markB
        simp only [hhd]
      rw [hmk2] at hB3
      have HB3 := hidep hB3
      have HCH := hidep (fun Y => charT_any c Y)
      have HLT := hidep (fun Y => isLetter_any c Y hcr)
      have HDG := hidep (fun Y => digit_any c Y)
      clear hmk hmk2 hB3 HB HB2 hhd
      by_cases h5 : s.size = 1
      case neg =>
        have g5 : ¬ (s.size : Int) = 1 := by omega
        have g6 : ((s.size : Int) == 1) = false := by simp; omega
        have HF := hidep (HB3.out.trans (by rw [decide_eq_false h5, Bool.false_and] : _ = false))
        go_enter Try.func33, Try.ntmps33
        go_wp2_with (first
          | (go_at_call 30; refine (HI.out _ HBX.out).mono ?_; rintro e w1 ⟨rfl, rfl⟩)
          | (go_at_call 55; refine (HW.out _).mono ?_; rintro e w2 ⟨rfl, rfl⟩)
          | fail)
        go_ret
        exact ⟨by rw [HF.out]; rfl, HBX.out⟩
      have g5 : (s.size : Int) = 1 := by omega
      rw [decide_eq_true h5, Bool.true_and] at HB3
      have hlet : (!letB c) = (!lowB c && !capB c) := by unfold letB; cases lowB c <;> cases capB c <;> rfl
      have hB4 : rightB ⟨s, wh, cl⟩ = (charB c && (!letB c && (!digB c && decide (wh = 0)))) := by
        rw [HB3.out, hlet]
        cases charB c <;> cases lowB c <;> cases capB c <;> cases digB c <;> rfl
      clear HB3 hlet h5
      generalize charB c = ch at *
      generalize letB c = lt at *
      generalize digB c = dg at *
      have HB4 := hidep hB4
      clear hB4
      by_cases h6 : wh = 0
      · have g7 : (wh == 0) = true := by simp [h6]
        have g8 : decide (wh = 0) = true := decide_eq_true h6
        rw [g8] at HB4
        clear h6 g8
        cases ch <;> cases lt <;> cases dg
        all_goals
          have HF := hidep (HB4.out)
          clear HB4
          go_enter Try.func33, Try.ntmps33
          go_wp2_with (first
            | (go_at_call 30; refine (HI.out _ HBX.out).mono ?_; rintro e w1 ⟨rfl, rfl⟩)
            | (go_at_call 55; refine (HW.out _).mono ?_; rintro e w2 ⟨rfl, rfl⟩)
            | (go_at_call 56; refine (HCH.out _).mono ?_; rintro e w3 ⟨rfl, rfl⟩)
            | (go_at_call 57; refine (HLT.out _).mono ?_; rintro e w4 ⟨rfl, rfl⟩)
            | (go_at_call 58; refine (HDG.out _).mono ?_; rintro e w5 ⟨rfl, rfl⟩)
            | fail)
          go_ret
          exact ⟨by rw [HF.out]; rfl, HBX.out⟩
      · have g7 : (wh == 0) = false := by simp [h6]
        have g8 : decide (wh = 0) = false := decide_eq_false h6
        rw [g8] at HB4
        clear g8
        cases ch <;> cases lt <;> cases dg
        all_goals
          have HF := hidep (HB4.out)
          clear HB4
          go_enter Try.func33, Try.ntmps33
          go_wp2_with (first
            | (go_at_call 30; refine (HI.out _ HBX.out).mono ?_; rintro e w1 ⟨rfl, rfl⟩)
            | (go_at_call 55; refine (HW.out _).mono ?_; rintro e w2 ⟨rfl, rfl⟩)
            | (go_at_call 56; refine (HCH.out _).mono ?_; rintro e w3 ⟨rfl, rfl⟩)
            | (go_at_call 57; refine (HLT.out _).mono ?_; rintro e w4 ⟨rfl, rfl⟩)
            | (go_at_call 58; refine (HDG.out _).mono ?_; rintro e w5 ⟨rfl, rfl⟩)
            | fail)
          go_ret
          exact ⟨by rw [HF.out]; rfl, HBX.out⟩
end Go.Proofs.Ytcfjepcflanjbaa
/- Contracts: all rules are right (package table); a letter has a rule of its own (dactylref06). -/
namespace Go.Proofs.Ytcfjepcflanjbaa
open Go.RowKit Go.Lab Go.Shelf
def RuleOk (r : RuleZ) : Prop := r.text.size ≤ 100000 ∧ -9223372036854775808 ≤ r.wh ∧ r.wh ≤ 9223372036854775807
theorem rule_at {w : World} {a : Option Addr} {c : Nat} {l : List RuleZ} (h : RulesAt w (.slice a l.length c) l) {k : Nat} (hk : k < l.length) :
    ∃ b off ua un uc, a = some ⟨b, off, none⟩ ∧ b < w.heap.size ∧ w.cell? ⟨b, off + k * 3, none⟩ = some (.string l[k].text) ∧ w.cell? ⟨b, off + k * 3 + 1, none⟩ = some (.int .i64 l[k].wh) ∧ w.cell? ⟨b, off + k * 3 + 2, none⟩ = some (.slice ua un uc) ∧ BysAt w (.slice ua un uc) l[k].cells := by
  obtain ⟨b, off, u, e, hb, hr, hu⟩ := h.at hk
  obtain ⟨ua, uc, rfl, _, _⟩ := hu.1.form
  exact ⟨b, off, ua, _, uc, e, hb, hr 0 _ rfl, hr 1 _ rfl, hr 2 _ rfl, hu⟩
set_option maxHeartbeats 800000 in
theorem valid1_any (r : RuleZ) (ua : Option Addr) (un uc : Nat) (w : World) (hu : BysAt w (.slice ua un uc) r.cells) (hs : r.text.size ≤ 100000) :
    Calls Try.prog 32 #[.agg #[.string r.text, .int .i64 r.wh, .slice ua un uc]] w fun e w' => e = .returned (.bool (!rightB r)) ∧ Below w.heap.size w w' := by
  have hbx := (Below.refl w.heap.size w).alloc (Nat.le_refl _) (.cells #[.string r.text, .int .i64 r.wh, .slice ua un uc] 51)
  have H := hidep (rightT_any r (.slice ua un uc) _ (hu.below hbx) hs)
  have HBX := hidep hbx
  clear hu hs hbx
  obtain ⟨s, wh, cl⟩ := r
  simp only at H HBX ⊢
  generalize rightB ⟨s, wh, cl⟩ = rb at *
  go_enter Try.func32, Try.ntmps32
  go_wp2_with (go_at_call 33; refine H.out.mono ?_; rintro e w1 ⟨rfl, hb1⟩)
  go_ret
  exact ⟨rfl, HBX.out.trans (hb1.mono HBX.out.size)⟩
set_option maxHeartbeats 1000000 in
theorem indexFuncR_any (v : Value) (l : List RuleZ) (w : World) (h : RulesAt w v l) (hl : ∀ r ∈ l, RuleOk r) :
    Calls Try.prog 54 #[v, .func (.func 32) #[] #[]] w fun e w' => (∃ k : Int, e = .returned (.int .i64 k) ∧ Hid (decide (0 ≤ k) = !l.all rightB)) ∧ Below w.heap.size w w' := by
  obtain ⟨a, cap, rfl, h2, h3⟩ := h.form
  unfold maxLen at h3
  go_enter Try.func54, Try.ntmps54
  go_wp2
  go_loopw [8] (fun i wr => ∃ k : Nat, k ≤ l.length ∧ i = .int .i64 k ∧ Hid ((l.take k).all rightB = true) ∧ Below w.heap.size w wr) (fun i _ => l.length - (intOf i).toNat)
  case atStart => exact ⟨0, Nat.zero_le _, rfl, hidep rfl, Below.refl _ _⟩
  case round =>
    obtain ⟨k, hk, rfl, hg, hbw⟩ := hrel
    by_cases hlt : k < l.length
    · obtain ⟨b, off, ua, un, uc, rfl, hb, hc0, hc1, hc2, hu⟩ := rule_at (h.below hbw) hlt
      have hm := hl _ (List.getElem_mem hlt)
      have HT := hidep (takeAll rightB l k hlt hg.out)
      have HF := hidep (allFalse rightB l k hlt)
      obtain ⟨y, hy⟩ : ∃ y, y = l[k] := ⟨_, rfl⟩
      rw [← hy] at hc0 hc1 hu hm HT HF
      have HC := hidep (valid1_any y ua un uc wr hu hm.1)
      clear hy h hu hm hl
      obtain ⟨s, wh, cl⟩ := y
      simp only at hc0 hc1 HC
      cases hp : rightB ⟨s, wh, cl⟩ with
      | true =>
        rw [hp] at HC HT
        clear hp
        go_wp2_with (go_at_call 32; refine HC.out.mono ?_; rintro e w1 ⟨rfl, hb1⟩)
        go_roundw
        case rel => exact ⟨k + 1, by omega, by go_num, HT, hbw.trans (hb1.mono hbw.size)⟩
        case measure => simp [intOf]; omega
      | false =>
        rw [hp] at HC
        have HF := hidep (HF.out hp)
        clear hp
        go_wp2_with (go_at_call 32; refine HC.out.mono ?_; rintro e w1 ⟨rfl, hb1⟩)
        go_ret
        exact ⟨⟨_, rfl, hidep (by rw [HF.out]; simp)⟩, hbw.trans (hb1.mono hbw.size)⟩
    · go_wp2
      go_ret
      have hkl : k = l.length := by omega
      subst hkl
      have := hg.out
      rw [List.take_length] at this
      exact ⟨⟨_, rfl, hidep (by rw [this]; rfl)⟩, hbw⟩
set_option maxHeartbeats 400000 in
theorem containsFuncR_any (v : Value) (l : List RuleZ) (w : World) (h : RulesAt w v l) (hl : ∀ r ∈ l, RuleOk r) :
    Calls Try.prog 31 #[v, .func (.func 32) #[] #[]] w fun e w' => e = .returned (.bool (!l.all rightB)) ∧ Below w.heap.size w w' := by
  have HI := hidep (indexFuncR_any v l w h hl)
  clear h hl
  go_enter Try.func31, Try.ntmps31
  go_wp2_with fail
  refine HI.out.mono ?_
  rintro e w1 ⟨⟨k, rfl, hk⟩, hb⟩
  go_wp2
  go_ret
  exact ⟨ret_val (congrArg Value.bool hk.out), hb⟩
/-- The letter's rule. -/
def ownR (c : Int) (r : RuleZ) : Bool := decide (r.wh = 0) && decide (byts r.text = [c])
theorem own_eq (l : List RuleZ) (c : Int) : ownB l c = !l.all (fun r => !ownR c r) := by
  unfold ownB
  induction l with
  | nil => rfl
  | cons a l ih =>
    rw [List.any_cons, List.all_cons, ih]
    unfold ownR
    cases decide (a.wh = 0) && decide (byts a.text = [c]) <;> simp
theorem byts_one {s : ByteArray} (h : s.size = 1) (c : Int) (h2 : 0 < (byts s).length) : (byts s = [c]) ↔ (byts s)[0] = c := by
  have hl : (byts s).length = 1 := by rw [byts_len, h]
  constructor
  · intro e
    simp only [e, List.getElem_cons_zero]
  · intro e
    apply List.ext_getElem
    · rw [hl]; rfl
    · intro i h1 h3
      have hi : i = 0 := by omega
      subst hi
      simpa using e
end Go.Proofs.Ytcfjepcflanjbaa
/- Reader: a function with loops over functions within a loop: the marks among its deferred calls. -/
namespace Go.Lab
open Go Go.RowKit
def markD (r : Nat) : Deferred := { target := .collected r, args := #[] }
/-- The deferred calls ds are marks of finished loops over functions, their blocks open, from lo on, each another. -/
def Marks (lo : Nat) (ds : List Deferred) (w : World) : Prop := ∃ rs : List Nat, ds = rs.map markD ∧ rs.Nodup ∧ ∀ r ∈ rs, lo ≤ r ∧ w.heap[r]? = some (.deferred (some []))
def KeepsM (w w' : World) : Prop := ∀ r : Nat, w.heap[r]? = some (.deferred (some [])) → w'.heap[r]? = some (.deferred (some []))
theorem KeepsM.refl (w : World) : KeepsM w w := fun _ h => h
theorem KeepsM.trans {a b c : World} (h : KeepsM a b) (k : KeepsM b c) : KeepsM a c := fun r hr => k r (h r hr)
theorem KeepsM.below {w w' : World} (h : Below w.heap.size w w') : KeepsM w w' := fun r hr => (h.block r (lt_of_block hr)).trans hr
theorem KeepsM.grown {w w' : World} {b : Nat} {o : Obj} (hg : w.grownBy w' (some b)) (hb : w.heap[b]? = some o) (ho : o ≠ .deferred (some [])) : KeepsM w w' := fun r hr => by
  refine (hg.block r (lt_of_block hr) (fun e => ?_)).trans hr
  injection e with e
  subst e
  rw [hb] at hr
  injection hr with hr
  exact ho hr
theorem Marks.nil (lo : Nat) (w : World) : Marks lo [] w := ⟨[], rfl, List.nodup_nil, fun _ h => by cases h⟩
theorem Marks.kept {lo : Nat} {ds : List Deferred} {w w' : World} (h : Marks lo ds w) (hk : KeepsM w w') : Marks lo ds w' := by
  obtain ⟨rs, h1, h2, h3⟩ := h
  exact ⟨rs, h1, h2, fun r hr => ⟨(h3 r hr).1, hk r (h3 r hr).2⟩⟩
theorem Marks.cons {lo D : Nat} {ds : List Deferred} {w w' : World} (h : Marks lo ds w) (hk : KeepsM w w') (hlo : lo ≤ D) (hD : w.heap.size ≤ D) (hd : w'.heap[D]? = some (.deferred (some []))) :
    Marks lo ({ target := .collected D, args := #[] } :: ds) w' := by
  obtain ⟨rs, h1, h2, h3⟩ := h
  refine ⟨D :: rs, by rw [h1]; rfl, List.nodup_cons.2 ⟨fun hm => ?_, h2⟩, fun r hr => ?_⟩
  · have := lt_of_block (h3 D hm).2; omega
  · rcases List.mem_cons.1 hr with rfl | hr
    · exact ⟨hlo, hd⟩
    · exact ⟨(h3 r hr).1, hk r (h3 r hr).2⟩
theorem leavesM_marks {F : Fence} {n : Nat} {P : Program} {fn : Func} {tmps : Array Value} {R : Ending → World → Prop} {lo : Nat} {w : World} {ds : List Deferred} (hm : Marks lo ds w)
    (h : ∀ w' : World, (∀ (b : Nat) (o : Obj), w.heap[b]? = some o → o.isCells = true → w'.heap[b]? = some o) → Below lo w w' → ∃ v, (results fn tmps).run P w' = .ok v w' ∧ R (.returned v) w') : LeavesInM F n P fn tmps R ds .returning w := by
  obtain ⟨rs, rfl, hnd, hr⟩ := hm
  induction rs generalizing w with
  | nil => exact h w (fun _ _ h _ => h) (Below.refl _ _)
  | cons r rs ih =>
    obtain ⟨hlo, hd⟩ := hr r (List.mem_cons_self ..)
    obtain ⟨hnr, hnd⟩ := List.nodup_cons.1 hnd
    refine ⟨by simp, .inl ⟨r, _, rfl, run_takeDeferred hd, ?_⟩⟩
    have hoth : ∀ b, b ≠ r → (w.putObj r (.deferred none)).heap[b]? = w.heap[b]? := fun b hb => World.putObj_heap_other hb
    have hbl : Below lo w (w.putObj r (.deferred none)) := ⟨rfl, rfl, rfl, by simp, fun b hb => hoth b (by omega)⟩
    refine ih (w := w.putObj r (.deferred none)) (fun w' hc hb => ?_) hnd (fun q hq => ?_)
    · refine h w' (fun b o hbo ho => hc b o ?_ ho) (hbl.trans hb)
      rw [hoth b (fun e => ?_)]
      · exact hbo
      · subst e
        rw [hd] at hbo
        injection hbo with hbo
        subst hbo
        cases ho
    · refine ⟨(hr q (List.mem_cons_of_mem _ hq)).1, ?_⟩
      rw [hoth q (fun e => hnr (e ▸ hq))]
      exact (hr q (List.mem_cons_of_mem _ hq)).2
end Go.Lab
/- A region that draws its order, inside a round of a loop over a function: by the law for a region outside of it. Nothing here speaks of the program. -/
namespace Go.Lab
open Go Go.RowKit
variable {P : Program} {ops : Array Oper} {Q : Exit → Act → World → Prop} {md : Region.Mode}
def noDefer (ops : Array Oper) : Bool := ops.all fun o => match o.op with | .defer _ => false | _ => true
theorem noDefer_spec {ops : Array Oper} (h : noDefer ops = true) {i : Nat} {o : Oper} (hi : ops[i]? = some o) : ∀ c, o.op ≠ .defer c := by
  intro c hc
  obtain ⟨hl, he⟩ := Array.getElem?_eq_some_iff.1 hi
  have := Array.all_eq_true.1 h i hl
  rw [he] at this
  simp [hc] at this
theorem callsIn_round {n l : Nat} {f : FuncId} {args : Array Value} {w : World} {R : Ending → World → Prop} (h : Calls P f args w R) : CallsIn (Fence.wide.inRound l) n P f args w R :=
  CallsIn.inRound l (callsIn_wide.2 h)
theorem oper_round {o : Oper} {K : Act → World → Prop} {a : Act} {w : World} {l n : Nat} (hnd : ∀ c, o.op ≠ .defer c) (h : o.wp P a w K Q) : o.wpIn (Fence.wide.inRound l) n P a w K Q := by
  unfold Oper.wpIn
  refine ⟨fun _ _ => trivial, ?_⟩
  rw [Oper.semAt_eq _ _ _ hnd]
  unfold Oper.wp at h
  generalize (execOp a.eval o).run P w = r at *
  cases r with
  | ok x w' =>
    cases x <;> first
      | exact h
      | exact ⟨fun h => (by cases h), callsIn_round h⟩
      | exact ⟨fun h => (by cases h), fun c cs _ => let ⟨v, w', r, s⟩ := h c cs; ⟨v, w', r, stepsIn_wide.2 s⟩⟩
      | exact h.elim
  | halt x w' => cases x <;> exact h
theorem wpOp_round {K : Act → World → Prop} {a : Act} {w : World} {l n i : Nat} (hnd : noDefer ops = true) (hQ : ¬ LetsOut Q) (h : wpOp P ops Q i K a w) : wpOpIn (Fence.wide.inRound l) n P ops Q i K a w := by
  unfold wpOp at h
  unfold wpOpIn
  cases ho : ops[i]? with
  | none => simpa [ho] using h
  | some o =>
    simp only [ho] at h ⊢
    split
    · rename_i hw
      simp only [hw, if_true] at h
      rcases h with h | h
      · exact oper_round (noDefer_spec hnd ho) h
      · exact absurd h.2 hQ
    · rename_i hw
      simp only [hw] at h
      exact ⟨fun _ _ => trivial, h⟩
theorem wpAny_round {l n : Nat} (hnd : noDefer ops = true) (hQ : ¬ LetsOut Q) : ∀ (fuel : Nat) (listed : Array Bool) (a : Act) (w : World), wpAny P md ops Q fuel listed a w → wpAnyIn (Fence.wide.inRound l) n P md ops Q fuel listed a w
  | 0, _, _, _, h => h
  | fuel + 1, _, _, _, h => ⟨h.1, fun i hi => wpOp_round hnd hQ (wpOp_mono (fun a' w' h' => wpAny_round hnd hQ fuel _ a' w' h') (h.2 i hi))⟩
/-- A region that draws its order, in a round: the walk goes on with 'wpAnyH', from the world behind the draw. -/
theorem wpIn_region_round {S : World → Prop} {a : Act} {w : World} {l n id : Nat} (hm : P.follows .mixedOrders = true) (hnd : noDefer ops = true) (hQ : ¬ LetsOut Q) (hS : S w.drew)
    (h : S w.drew → wpAnyH P .any ops Q S ops.size (Array.replicate ops.size false) a w.drew) : (Code.region id ops true).wpIn (Fence.wide.inRound l) n P Q a w :=
  wpIn_region_any hm (wpAny_round hnd hQ _ _ _ _ (wpAny_of_held _ _ _ _ (h hS)))
/-- The slot number i of a frame. -/
def slot (t : Array Value) (i : Nat) : Value := t.getD i undef
/-- What a loop keeps: of its frame's slots, its marks and the world. -/
def LoopI (n : Nat) (R : Array Value → List Deferred → World → Prop) (a : Act) (w : World) : Prop := a.tmps.size = n ∧ R a.tmps a.defers w
theorem LoopI.mk {n : Nat} {R : Array Value → List Deferred → World → Prop} {a : Act} {w : World} (h : a.tmps.size = n) (hR : R a.tmps a.defers w) : LoopI n R a w := ⟨h, hR⟩
/-- Several new blocks. -/
def allocs (w : World) : List Obj → World
  | [] => w
  | o :: r => allocs (w.alloc o) r
theorem allocs_size (l : List Obj) : ∀ w : World, (allocs w l).heap.size = w.heap.size + l.length := by
  induction l with
  | nil => intro w; rfl
  | cons o r ih => intro w; rw [allocs, ih, World.size_alloc, List.length_cons]; omega
theorem allocs_below (l : List Obj) : ∀ w : World, Below w.heap.size w (allocs w l) := by
  induction l with
  | nil => intro w; exact Below.refl _ _
  | cons o r ih => intro w; exact ((Below.refl _ w).alloc (Nat.le_refl _) o).trans ((ih _).mono (by simp))
theorem allocs_get (l : List Obj) : ∀ (w : World) (i : Nat) (o : Obj), l[i]? = some o → (allocs w l).heap[w.heap.size + i]? = some o := by
  induction l with
  | nil => intro w i o h; cases h
  | cons x r ih =>
    intro w i o h
    cases i with
    | zero =>
      injection h with h
      subst h
      exact ((allocs_below r (w.alloc x)).block _ (by simp)).trans (heap_alloc_new w x)
    | succ i =>
      have := ih (w.alloc x) i o h
      rw [World.size_alloc] at this
      rw [allocs, show w.heap.size + (i + 1) = w.heap.size + 1 + i by omega]
      exact this
end Go.Lab
