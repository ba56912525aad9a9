/- Contracts: the plan's choices; lift.Choices; lift.Least. -/
import Derived.Laws.EntriesVeiled
import Derived.Test.YthdafajhohdkoaaLiftH
import Derived.Test.YthdafajhohdkoaaRefI0
import Derived.Test.YthdafajhohdkoaaPlan
import Derived.Test.YthdafajhohdkoaaLiftA
namespace Go.Proofs.Ythdafajhohdkoaa
open Go.RowKit Go.Lab
theorem OwnEE.base {w : World} {base base' : Nat} {v : Value} {l : List (List Edit)} (h : OwnEE w base v l) (hb : base' ≤ base) : OwnEE w base' v l := by
  obtain ⟨us, hl, ho, hs⟩ := h
  refine ⟨us, hl, ⟨ho.1, ?_⟩, hs⟩
  rcases ho.2 with h2 | ⟨g, cap, cur, hv, hg, r⟩
  · exact .inl h2
  · exact .inr ⟨g, cap, cur, hv, Nat.le_trans hb hg, r⟩
theorem inv_start (w : World) (pb many : Nat) : Inv w w.heap.size (.pointer (some ⟨pb, 0, none⟩)) many
    (((((w.alloc (.cells #[.pointer (some ⟨pb, 0, none⟩)] 96)).alloc (.cells #[.int .i64 many] 3)).alloc (.cells #[.slice none 0 0] 28)).alloc (.cells #[.slice none 0 0] 42)).alloc (.cells #[visitV w.heap.size] 110)) [] [] := by
  have h1 := heap_alloc_new w (.cells #[.pointer (some ⟨pb, 0, none⟩)] 96)
  refine ⟨?_, ?_, ?_, ?_, ⟨.slice none 0 0, ?_, OwnEE.nil _ _⟩, ⟨.slice none 0 0, ?_, World.ownsRow_nil _ _ _ _⟩⟩
  · exact ((((((Below.refl _ _).alloc (Nat.le_refl _) _).alloc (by simp) _).alloc (by simp <;> omega) _).alloc (by simp <;> omega) _).alloc (by simp <;> omega) _)
  · rw [Below.heap_alloc _ _ _ (by simp <;> omega), Below.heap_alloc _ _ _ (by simp <;> omega), Below.heap_alloc _ _ _ (by simp <;> omega), Below.heap_alloc _ _ _ (by simp)]; exact h1
  · rw [Below.heap_alloc _ _ _ (by simp <;> omega), Below.heap_alloc _ _ _ (by simp <;> omega), Below.heap_alloc _ _ _ (by simp)]
    have := heap_alloc_new (w.alloc (.cells #[.pointer (some ⟨pb, 0, none⟩)] 96)) (.cells #[.int .i64 many] 3)
    simpa using this
  · have := heap_alloc_new ((((w.alloc (.cells #[.pointer (some ⟨pb, 0, none⟩)] 96)).alloc (.cells #[.int .i64 many] 3)).alloc (.cells #[.slice none 0 0] 28)).alloc (.cells #[.slice none 0 0] 42)) (.cells #[visitV w.heap.size] 110)
    simpa using this
  · rw [Below.heap_alloc _ _ _ (by simp <;> omega), Below.heap_alloc _ _ _ (by simp)]
    have := heap_alloc_new ((w.alloc (.cells #[.pointer (some ⟨pb, 0, none⟩)] 96)).alloc (.cells #[.int .i64 many] 3)) (.cells #[.slice none 0 0] 28)
    simpa using this
  · rw [Below.heap_alloc _ _ _ (by simp)]
    have := heap_alloc_new (((w.alloc (.cells #[.pointer (some ⟨pb, 0, none⟩)] 96)).alloc (.cells #[.int .i64 many] 3)).alloc (.cells #[.slice none 0 0] 28)) (.cells #[.slice none 0 0] 42)
    simpa using this
set_option maxHeartbeats 4000000 in
set_option maxRecDepth 100000 in
theorem planChoices_any (a b : List Sym) (va vb vp : Value) (w : World) (many : Nat) (hla : a.length ≤ 2048) (hlb : b.length ≤ 2048) (hm : many ≤ 64) (hm1 : 1 ≤ many)
    (hp : PlanAt w vp va vb a b) (ha : SymsAt w va a) (hb : SymsAt w vb b) :
    Calls Try.prog 67 #[vp, .int .i64 many] w fun e w' => ∃ v, e = .returned v ∧ OwnEE w' w.heap.size v (((enumP a b a.length 0 0).take many).map (editsZ a b)) ∧ Below w.heap.size w w' := by
  have HV : Hid (∀ W, Inv w w.heap.size vp many W [] [] → Calls Try.prog 79 #[.int .i64 0, .int .i64 0, .pointer (some ⟨w.heap.size, 0, none⟩), .pointer (some ⟨w.heap.size + 2, 0, none⟩), .pointer (some ⟨w.heap.size + 3, 0, none⟩), .pointer (some ⟨w.heap.size + 4, 0, none⟩), .pointer (some ⟨w.heap.size + 1, 0, none⟩)] W
      fun e w' => e = .returned (.tuple #[]) ∧ Inv w w.heap.size vp many w' (((enumP a b a.length 0 0).take many).map (editsZ a b)) []) := hidep (fun W hW => by
    have h := visit_any a b va vb vp w w.heap.size many rfl hla hlb hm hp ha hb a.length 0 0 [] [] W (by omega) (by omega) (by omega) (by simpa using Nat.lt_of_lt_of_le Nat.zero_lt_one hm1) (by simp) (fun p hp => by simpa using hp) hW
    simpa using h)
  generalize List.map (editsZ a b) (List.take many (enumP a b a.length 0 0)) = LL at *
  obtain ⟨pb, ob, rb, rfl, hpb, hO, hR⟩ := hp
  go_enter Try.func67, Try.ntmps67
  go_wp2_with (first
    | (go_at_call 79; refine (HV.out _ (inv_start w pb many)).mono ?_; rintro e w1 ⟨rfl, hI⟩; obtain ⟨vo, hvo, hown⟩ := hI.out; have c2 := cell_of_one hvo; have hbw := hI.low; obtain ⟨ao, co, rfl, hco, hco2⟩ := hown.form; clear hI)
    | fail)
  go_ret
  exact ⟨_, rfl, hown.base (Nat.le_add_right _ 5), hbw⟩
set_option maxHeartbeats 1000000 in
theorem choicesL_any (a b : List Sym) (va vb : Value) (most : Int) (w : World) (ha : SymsAt w va a) (hb : SymsAt w vb b) :
    Calls Try.prog 45 #[va, vb, .int .i64 most] w fun e w' => ∃ v, e = .returned v ∧ OwnEE w' w.heap.size v (choicesZ a b most) ∧ Below w.heap.size w w' := by
  have HTA := hidep (isText_any _ a w ha)
  have HTB : Hid (∀ W, Below w.heap.size w W → Calls Try.prog 37 #[vb] W fun e w' => e = .returned (.bool (isTextB b)) ∧ Below W.heap.size W w') := hidep (fun W hW => isText_any _ b W (hb.below hW))
  obtain ⟨aa, ca, rfl, h1, h2⟩ := ha.form
  obtain ⟨ab, cb, rfl, h3, h4⟩ := hb.form
  unfold maxLen at h2 h4
  have H0 : Hid (¬ (isTextB a = true ∧ isTextB b = true ∧ 1 ≤ most ∧ most ≤ 64) → choicesZ a b most = []) := hidep (fun h => by
    unfold choicesZ
    rw [if_neg]
    simp only [Bool.and_eq_true, decide_eq_true_eq]
    rintro ⟨⟨⟨e1, e2⟩, e3⟩, e4⟩
    exact h ⟨e1, e2, e3, e4⟩)
  cases hta : isTextB a with
  | false =>
    rw [hta] at HTA H0
    have H1 := H0.out (by simp)
    rw [H1]
    clear H0 H1 hta
    go_enter Try.func45, Try.ntmps45
    go_wp2_with fail
    refine HTA.out.mono ?_
    rintro e w1 ⟨rfl, hb1⟩
    go_wp2
    go_ret
    exact ⟨_, rfl, OwnEE.nil _ _, hb1⟩
  | true =>
    cases htb : isTextB b with
    | false =>
      rw [hta] at HTA H0
      rw [htb] at HTB H0
      have H1 := H0.out (by simp)
      rw [H1]
      clear H0 H1 hta htb
      go_enter Try.func45, Try.ntmps45
      go_wp2_with fail
      refine HTA.out.mono ?_
      rintro e w1 ⟨rfl, hb1⟩
      go_wp2_with fail
      refine (HTB.out _ hb1).mono ?_
      rintro e w2 ⟨rfl, hb2⟩
      have hbw := hb1.trans (hb2.mono hb1.size)
      go_wp2
      go_ret
      exact ⟨_, rfl, OwnEE.nil _ _, hbw⟩
    | true =>
      have hla := isTextB_len hta
      have hlb := isTextB_len htb
      rw [hta] at HTA H0
      rw [htb] at HTB H0
      by_cases hm : 1 ≤ most ∧ most ≤ 64
      · obtain ⟨mo, rfl⟩ : ∃ mo : Nat, most = (mo : Int) := ⟨most.toNat, by omega⟩
        have HZ : Hid (choicesZ a b mo = ((enumP a b a.length 0 0).take mo).map (editsZ a b)) := hidep (by
          unfold choicesZ
          rw [hta, htb, decide_eq_true hm.1, decide_eq_true hm.2]
          rfl)
        obtain ⟨hm1, hm2⟩ := hm
        clear H0 hta htb
        go_enter Try.func45, Try.ntmps45
        go_wp2_with fail
        refine HTA.out.mono ?_
        rintro e w1 ⟨rfl, hb1⟩
        go_wp2_with fail
        refine (HTB.out _ hb1).mono ?_
        rintro e w2 ⟨rfl, hb2⟩
        have hbw := hb1.trans (hb2.mono hb1.size)
        go_wp2_with (first
          | (go_at_call 66; refine (newPlan_any _ _ a b w2 (ha.below hbw) (hb.below hbw) hla hlb).mono ?_; rintro e w3 ⟨vp, rfl, hP, hb3⟩; have hbw3 := hbw.trans (hb3.mono hbw.size))
          | (go_at_call 67; refine (planChoices_any a b _ _ vp w3 mo hla hlb (by omega) (by omega) hP (ha.below hbw3) (hb.below hbw3)).mono ?_; rintro e w4 ⟨v4, rfl, hO, hb4⟩; have hbw4 := hbw3.trans (hb4.mono hbw3.size))
          | fail)
        go_ret
        rw [HZ.out]
        exact ⟨_, rfl, hO.base hbw3.size, hbw4⟩
      · have H1 := H0.out (by omega)
        rw [H1]
        clear H0 H1 hta htb
        rcases (show most < 1 ∨ (1 ≤ most ∧ 64 < most) from by omega) with hm | ⟨hm, hm2⟩
        all_goals
          go_enter Try.func45, Try.ntmps45
          go_wp2_with fail
          refine HTA.out.mono ?_
          rintro e w1 ⟨rfl, hb1⟩
          go_wp2_with fail
          refine (HTB.out _ hb1).mono ?_
          rintro e w2 ⟨rfl, hb2⟩
          have hbw := hb1.trans (hb2.mono hb1.size)
          go_wp2
          go_ret
          exact ⟨_, rfl, OwnEE.nil _ _, hbw⟩
set_option maxHeartbeats 1000000 in
theorem leastL_any (a b : List Sym) (va vb : Value) (w : World) (ha : SymsAt w va a) (hb : SymsAt w vb b) :
    Calls Try.prog 23 #[va, vb] w fun e w' => ∃ v, e = .returned (.tuple #[v, .int .i64 (leastZ a b).2.1, .bool (leastZ a b).2.2]) ∧ EditsAt w' v (leastZ a b).1 ∧ Below w.heap.size w w' := by
  have HC := hidep (choicesL_any a b va vb 2 w ha hb)
  have HS : Hid (∀ es ∈ choicesZ a b 2, szOk es) := hidep (fun es h => choicesZ_sz h)
  have HZ : Hid (leastZ a b = ((choicesZ a b 2).headD [], sizeZ ((choicesZ a b 2).headD []), decide (1 < (choicesZ a b 2).length))) := hidep rfl
  generalize choicesZ a b 2 = L at *
  generalize leastZ a b = Z at *
  cases L with
  | nil =>
    go_enter Try.func23, Try.ntmps23
    go_wp2_with fail
    refine HC.out.mono ?_
    rintro e w1 ⟨v, rfl, hO, hb1⟩
    obtain ⟨ao, co, rfl, hc1, hc2⟩ := hO.form
    go_wp2
    go_ret3
    rw [HZ.out]
    exact ⟨_, rfl, EditsAt.nil _, hb1⟩
  | cons l r =>
    have hs := HS.out l (List.mem_cons_self ..)
    go_enter Try.func23, Try.ntmps23
    go_wp2_with fail
    refine HC.out.mono ?_
    rintro e w1 ⟨v, rfl, hO, hb1⟩
    obtain ⟨ao, co, rfl, hc1, hc2⟩ := hO.form
    obtain ⟨bo, oo, u, rfl, hbo, hcu, hu⟩ := hO.rd.at (k := 0) (by simp)
    simp only [List.getElem_cons_zero] at hu
    simp only [Nat.add_zero] at hcu
    obtain ⟨au, cu, rfl, hu2, hu3⟩ := hu.form
    have hN0 : 0 < (l :: r).length := by simp
    have hne : (((l :: r).length : Int) == 0) = false := by simp only [beq_eq_false_iff_ne]; omega
    have hlt : (0 : Int) < ((l :: r).length : Int) := by omega
    have HLT : Hid (decide ((1 : Int) < ((l :: r).length : Int)) = decide (1 < (l :: r).length)) := hidep (by
      rw [decide_eq_decide]; omega)
    have HL : Hid ((l :: r).headD [] = l) := hidep rfl
    have hl := hs.1
    have HB := hidep (fun k hk => sizeZ_bd hs k hk)
    have HST := hidep (fun k hk => sizeZ_take_succ (l := l) (k := k) hk)
    have hxs := hs.2
    generalize l :: r = LL at *
    clear hs
    go_wp2
    go_loopg [8, 10, 21] l.length (fun g s u10 i wr => ∃ k : Nat, k ≤ l.length ∧ l.length - k = g ∧ i = .int .i64 k ∧ s = .int .i64 (sizeZ (l.take k)) ∧ Below w1.heap.size w1 wr)
    case atStart => exact ⟨0, Nat.zero_le _, rfl, rfl, rfl, Below.refl _ _⟩
    case round =>
      obtain ⟨k, hk, hg, rfl, rfl, hbr⟩ := hrel
      have HG := hidep hg
      clear hg
      by_cases hlt2 : k < l.length
      · obtain ⟨b2, off, u2, rfl, hb2, hd0, hd1, hd2, hu4⟩ := (hu.below hbr).at hlt2
        obtain ⟨a', cap', rfl, hu5, hu6⟩ := hu4.form
        have hb0 := HB.out k hk
        have hx := hxs l[k] (List.getElem_mem hlt2)
        have hst := HST.out k hlt2
        have HS2 := hidep hst
        clear hst hu4 hu
        generalize l[k] = x at *
        obtain ⟨pos, del, ins⟩ := x
        simp only at hd0 hd1 hd2 hx HS2 hu5
        obtain ⟨hx1, hx2, hx3⟩ := hx
        obtain ⟨hb4, hb5⟩ := hb0
        have hb6 : (k : Int) * 2199023255552 ≤ 1048576 * 2199023255552 := by omega
        generalize sizeZ (l.take k) = s at *
        go_wp2
        go_roundg (l.length - (k + 1))
        case measure => have := HG.out; omega
        case rel => exact ⟨k + 1, by omega, rfl, by go_num, by rw [HS2.out]; go_num, hbr.alloc hbr.size _⟩
      · have hkk : k = l.length := by omega
        have hcu2 := (hbr.cell (p := ⟨bo, oo, none⟩) hbo).trans hcu
        have hbw := hb1.trans (hbr.mono hb1.size)
        have hu7 := hu.below hbr
        have HK : Hid (sizeZ (l.take k) = sizeZ l) := hidep (by rw [hkk, List.take_length])
        clear hkk
        go_wp2
        go_ret3
        rw [HZ.out]
        simp only [HL.out]
        rw [HK.out, HLT.out]
        exact ⟨_, rfl, hu7, hbw⟩
end Go.Proofs.Ythdafajhohdkoaa
