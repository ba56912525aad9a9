/- The reference's begins, is and Is: the plain recursion isF. -/
import Derived.Test.YtcfjepcflanjbaaGreatBi21
namespace Go.Proofs.YtcfjepcflanjbaaGreat
open Go.RowKit Go.Lab Go.Shelf
set_option maxRecDepth 100000
set_option maxHeartbeats 400000 in
theorem sameBy_any (v u : Value) (a b : List Int) (w : World) (hv : BysAt w v a) (hu : BysAt w u b) :
    Calls Tryz.prog 125 #[v, u] w fun e w' => e = .returned (.bool (decide (a = b))) ∧ Below w.heap.size w w' := by
  obtain ⟨va, vc, rfl, hvc, hvm⟩ := hv.1.form
  obtain ⟨ua, uc, rfl, huc, hum⟩ := hu.1.form
  unfold maxLen at hvm hum
  by_cases hl : a.length = b.length
  · have HV := hidep (fun W (hW : Below w.heap.size w W) => hv.below hW)
    have HU := hidep (fun W (hW : Below w.heap.size w W) => hu.below hW)
    have HL := hidep hl
    obtain ⟨n, hn⟩ : ∃ n, n = a.length := ⟨_, rfl⟩
    have HN := hidep hn
    have hm : b.length = n := by omega
    rw [hm, ← hn]
    clear hv hu hl
    rw [hm] at huc
    rw [← hn] at hvc
    clear hn hm
    go_enter Tryz.func125, Tryz.ntmps125
    go_wp2
    go_loopw [5] (fun i wr => ∃ k : Nat, k ≤ n ∧ i = .int .i64 k ∧ Hid (a.take k = b.take k) ∧ Below w.heap.size w wr) (fun i _ => n - (intOf i).toNat)
    case atStart => exact ⟨0, Nat.zero_le _, rfl, hidep rfl, Below.refl _ _⟩
    case round =>
      obtain ⟨k, hk, rfl, hg, hbw⟩ := hrel
      by_cases hlt : k < n
      · have hka : k < a.length := by rw [← HN.out]; exact hlt
        have hkb : k < b.length := by rw [← HL.out]; exact hka
        have h1 := HV.out _ hbw
        have h2 := HU.out _ hbw
        obtain ⟨b1, o1, x, hx, rfl, hb1, hc1, _, _⟩ := h1.get hka
        obtain ⟨b2, o2, y, hy, rfl, hb2, hc2, _, _⟩ := h2.get hkb
        have HT := hidep (take_succ_eq hka hkb hg.out)
        have hk1 : (k : Int) < (n : Int) := by omega
        have hk0 : (0 : Int) ≤ (k : Int) := by omega
        rw [hx, hy] at HT
        have HXY := hidep (show a = b → x = y from by intro e; rw [← hx, ← hy]; simp [e])
        clear hx hy h1 h2 hka hkb
        by_cases hxy : x = y
        · have hne : (x != y) = false := by simp [hxy]
          have HD := hidep (HT.out.2 hxy)
          clear hxy
          go_upto_region 6 with (fail)
          go_quiet (fail)
          go_wp2
          go_roundw
          case rel => exact ⟨k + 1, by omega, by go_num, HD, hbw.trans ((below_drewN (Below.refl _ _) _).mono hbw.size)⟩
          case measure => simp [intOf]; omega
        · have hne : (x != y) = true := by simp [hxy]
          have HD := hidep (show decide (a = b) = false from decide_eq_false (fun e => hxy (HXY.out e)))
          clear hxy
          go_upto_region 6 with (fail)
          go_quiet (fail)
          go_wp2
          go_ret
          exact ⟨ret_val (congrArg Value.bool HD.out.symm), hbw.trans ((below_drewN (Below.refl _ _) _).mono hbw.size)⟩
      · go_wp2
        go_ret
        have hkn : k = n := by omega
        have e1 := hg.out
        rw [List.take_of_length_le (by rw [hkn, HN.out]; omega), List.take_of_length_le (by rw [hkn, HN.out, HL.out]; omega)] at e1
        exact ⟨ret_val (congrArg Value.bool (decide_eq_true e1).symm), hbw⟩
  · have HD := hidep (show decide (a = b) = false from decide_eq_false (fun e => hl (by rw [e])))
    have hne : ((a.length : Int) != (b.length : Int)) = true := by simp; omega
    have hne2 : ¬ (a.length : Int) = (b.length : Int) := by omega
    clear hv hu hl
    go_enter Tryz.func125, Tryz.ntmps125
    go_wp2
    go_ret
    exact ⟨ret_val (congrArg Value.bool HD.out.symm), Below.refl _ _⟩
set_option maxHeartbeats 400000 in
theorem beginsR_any (v u : Value) (C c : List Int) (k : Nat) (w : World) (hv : BysAt w v C) (hu : BysAt w u c) (hk : k ≤ C.length) (hC : C.length ≤ 1000000) (hc : c.length ≤ 1000000) :
    Calls Tryz.prog 95 #[v, .int .i64 (k : Nat), u] w fun e w' => e = .returned (.bool (begB (C.drop k) c)) ∧ Below w.heap.size w w' := by
  obtain ⟨va, vc, rfl, hvc, hvm⟩ := hv.1.form
  obtain ⟨ua, uc, rfl, huc, hum⟩ := hu.1.form
  unfold maxLen at hvm hum
  have hwk : IntKind.i64.wrap ((k : Int) + (c.length : Int)) = (k : Int) + (c.length : Int) := IntWalk.i64_in _ (by omega)
  by_cases hl : k + c.length ≤ C.length
  · have hp := Rd.part hv.1 (l := k) (hh := k + c.length) (m := vc) (by omega) hl (by omega) (Nat.le_refl _)
    have hlen : ((C.drop k).take c.length).length = c.length := by rw [List.length_take, List.length_drop]; omega
    have hp2 : BysAt w (.slice (if vc = k then va else va.map (·.add k)) c.length (vc - k)) ((C.drop k).take c.length) := ⟨by
      rw [hlen]
      simp only [Nat.mul_one, Nat.add_sub_cancel_left, byC_drop, byC_take] at hp
      exact hp, fun x hx => hv.2 x (List.mem_of_mem_drop (List.mem_of_mem_take hx))⟩
    have HE := hidep (fun vv (hvv : Value.slice (if vc = k then va else va.map (·.add k)) c.length (vc - k) = vv) => hvv ▸ sameBy_any _ _ _ _ w hp2 hu)
    have HB := hidep (show begB (C.drop k) c = decide ((C.drop k).take c.length = c) from rfl)
    have hl1 : (k : Int) + (c.length : Int) ≤ (C.length : Int) := by omega
    have hl2 : (C.length : Int) ≤ (vc : Int) := by omega
    have hmin : min ((k : Int) + (c.length : Int)) (C.length : Int) = (k : Int) + (c.length : Int) := by omega
    clear hv hu hp hp2 hlen
    generalize c.length = n at *
    generalize C.length = m at *
    go_enter Tryz.func95, Tryz.ntmps95
    by_cases hvk : vc = k
    · have HVK := hidep hvk
      go_wp2_with (go_at_call 125; refine (HE.out _ (by simp [HVK.out])).mono ?_; rintro e w1 ⟨rfl, hb1⟩)
      go_ret
      exact ⟨ret_val (congrArg Value.bool HB.out.symm), hb1⟩
    · go_wp2_with (go_at_call 125; refine (HE.out _ (by simp [hvk])).mono ?_; rintro e w1 ⟨rfl, hb1⟩)
      go_ret
      exact ⟨ret_val (congrArg Value.bool HB.out.symm), hb1⟩
  · have HB := hidep (show begB (C.drop k) c = false from decide_eq_false (fun e => hl (by have := congrArg List.length e; rw [List.length_take, List.length_drop] at this; omega)))
    have hl1 : ¬ (k : Int) + (c.length : Int) ≤ (C.length : Int) := by omega
    clear hv hu hl
    go_enter Tryz.func95, Tryz.ntmps95
    go_wp2
    go_ret
    exact ⟨ret_val (congrArg Value.bool HB.out.symm), Below.refl _ _⟩
def StepsIn (w : World) (v : Value) (l : List StpZ) : Prop :=
  ∃ us : List Value, us.length = l.length ∧ Rd w (fun _ => True) 6 v l.length (stepsC l us) ∧ ∀ i (h : i < l.length) (h' : i < us.length), BysAt w us[i] l[i].cells
theorem StepsIn.below {w w' : World} {v : Value} {l : List StpZ} (h : StepsIn w v l) (hb : Below w.heap.size w w') : StepsIn w' v l := by
  obtain ⟨us, h1, h2, h3⟩ := h
  exact ⟨us, h1, h2.below hb, fun i a b => (h3 i a b).below hb⟩
theorem StepsOwn.into {ty : TypeId} {base : Nat} {w : World} {v : Value} {l : List StpZ} (h : StepsOwn ty base w v l) : StepsIn w v l := by
  obtain ⟨us, h1, h2, h3⟩ := h
  exact ⟨us, h1, (Rd.of_own h2).mono (fun _ _ => trivial), h3⟩
theorem StepsIn.form {w : World} {v : Value} {l : List StpZ} (h : StepsIn w v l) : ∃ a cap, v = .slice a l.length cap ∧ l.length ≤ cap ∧ cap ≤ maxLen := by
  obtain ⟨us, _, hr, _⟩ := h
  exact hr.form
theorem stepsC_get : ∀ (l : List StpZ) (us : List Value) (i j : Nat) (h : i < l.length) (h' : i < us.length), j < 6 → (stepsC l us)[i * 6 + j]? = (stepC l[i] us[i])[j]?
  | [], _, _, _, h, _, _ => by simp at h
  | _ :: _, [], _, _, _, h, _ => by simp at h
  | a :: l, b :: us, 0, j, _, _, hj => by
    rw [stepsC, Nat.zero_mul, Nat.zero_add, List.getElem?_append_left (by simp [stepC]; omega)]
    rfl
  | a :: l, b :: us, i + 1, j, h, h', hj => by
    have := stepsC_get l us i j (by simpa using h) (by simpa using h') hj
    rw [stepsC, List.getElem?_append_right (by simp [stepC]; omega)]
    simp only [stepC, List.length_cons, List.length_nil, List.getElem_cons_succ]
    rw [show (i + 1) * 6 + j - (0 + 1 + 1 + 1 + 1 + 1 + 1) = i * 6 + j from by omega]
    exact this
theorem StepsIn.get {w : World} {a : Option Addr} {c : Nat} {l : List StpZ} (h : StepsIn w (.slice a l.length c) l) {k : Nat} (hk : k < l.length) :
    ∃ b off s ua uc, l[k] = s ∧ a = some ⟨b, off, none⟩ ∧ b < w.heap.size ∧ w.cell? ⟨b, off + k * 6, none⟩ = some (.int .i64 s.st.lang) ∧ w.cell? ⟨b, off + k * 6 + 1, none⟩ = some (.bool s.st.num) ∧ w.cell? ⟨b, off + k * 6 + 2, none⟩ = some (.bool s.st.word) ∧ w.cell? ⟨b, off + k * 6 + 3, none⟩ = some (.int .i64 (s.n : Nat)) ∧ w.cell? ⟨b, off + k * 6 + 4, none⟩ = some (.slice ua s.cells.length uc) ∧ w.cell? ⟨b, off + k * 6 + 5, none⟩ = some (.int .i64 s.rule) ∧ BysAt w (.slice ua s.cells.length uc) s.cells := by
  obtain ⟨us, hl, hr, hs⟩ := h
  obtain ⟨b, off, e, hb, hc⟩ := Rd.at hr (by omega)
  have hk' : k < us.length := by omega
  have hu := hs k hk hk'
  obtain ⟨ua, uc, hu2, _, _⟩ := hu.1.form
  have hg : ∀ j, j < 6 → ∀ x, (stepC l[k] us[k])[j]? = some x → w.cell? ⟨b, off + k * 6 + j, none⟩ = some x := fun j hj x hx => by
    rw [Nat.add_assoc]
    apply hc
    rw [stepsC_get l us k j hk hk' hj]
    exact hx
  exact ⟨b, off, l[k], ua, uc, rfl, e, hb, hg 0 (by omega) _ rfl, hg 1 (by omega) _ rfl, hg 2 (by omega) _ rfl, hg 3 (by omega) _ rfl, hg 4 (by omega) _ (congrArg some hu2), hg 5 (by omega) _ rfl, by rw [← hu2]; exact hu⟩
theorem BysAt.drop {w : World} {a : Option Addr} {c m : Nat} {C : List Int} (h : BysAt w (.slice a C.length c) C) (hm : m ≤ C.length) :
    BysAt w (.slice (if c = m then a else a.map (·.add m)) (C.length - m) (c - m)) (C.drop m) := by
  obtain ⟨a', c', e, h1, _⟩ := h.1.form
  injection e with e1 e2 e3
  subst e1 e3
  have hp := Rd.part h.1 (l := m) (hh := C.length) (m := c) hm (Nat.le_refl _) h1 (Nat.le_refl _)
  simp only [Nat.mul_one, byC_drop, byC_take] at hp
  refine ⟨?_, fun x hx => h.2 x (List.mem_of_mem_drop hx)⟩
  rw [List.length_drop]
  rw [List.take_of_length_le (by rw [List.length_drop]; exact Nat.le_refl _)] at hp
  exact hp
/-! ### plain -/
def isF (T : TabZ) (l : List Sym) : Nat → StZ → Nat → List Int → Bool
  | 0, _, _, _ => false
  | f + 1, st, i, C => if l.length ≤ i then decide (C.length = 0) else (nextZ T st l i).any fun s => begB C s.cells && isF T l f s.st (i + s.n) (C.drop s.cells.length)
def isM (l : List Sym) (st : StZ) (i : Nat) : Nat := 2 * (l.length - i) + (if st.lang = (symAt l i).lang then 0 else 1)
theorem fitsB_len {r : RuleZ} {l : List Sym} {i : Nat} (h : fitsB r l i = true) : i + r.text.size ≤ l.length := by
  unfold fitsB at h
  simp only [Bool.and_eq_true, decide_eq_true_eq] at h
  exact h.1
theorem ruleSteps_mem {lang : Int} {wd : Bool} {lead : List Int} {l : List Sym} {i : Nat} : ∀ {rs : List RuleZ} {k : Nat} {s : StpZ}, s ∈ ruleSteps lang wd lead l i rs k → ∃ r ∈ rs, fitsB r l i = true ∧ s.st = ⟨lang, false, wd⟩ ∧ s.n = r.text.size ∧ s.cells = lead ++ r.cells
  | [], _, _, h => by cases h
  | r :: rs, k, s, h => by
    unfold ruleSteps at h
    rcases List.mem_append.1 h with h | h
    · by_cases hf : fitsB r l i = true
      · rw [if_pos hf] at h
        simp at h
        subst h
        exact ⟨r, by simp, hf, rfl, rfl, rfl⟩
      · rw [if_neg hf] at h; cases h
    · obtain ⟨r', h1, h2⟩ := ruleSteps_mem h
      exact ⟨r', by simp [h1], h2⟩
theorem rules_at {T : TabZ} {lang : Int} (h : lang = 0 ∨ lang = 1) : ∃ k, k < 2 ∧ T.rules lang = T.at k := by
  rcases h with rfl | rfl
  · exact ⟨0, by omega, rfl⟩
  · exact ⟨1, by omega, rfl⟩
theorem valid_inds {T : TabZ} (hv : validE T = 0) : T.dg.length = 10 ∧ (1 ≤ T.nm.length ∧ T.nm.length ≤ 4) ∧ (1 ≤ T.en.length ∧ T.en.length ≤ 4) ∧ (1 ≤ T.cp.length ∧ T.cp.length ≤ 4) ∧ (1 ≤ T.sw.length ∧ T.sw.length ≤ 4) := by
  unfold validE at hv
  split at hv
  · cases hv
  · split at hv
    · cases hv
    · rename_i h2
      simp only [Bool.not_eq_false, Bool.and_eq_true] at h2
      unfold cellsB at h2
      simp only [Bool.and_eq_true, decide_eq_true_eq] at h2
      omega
theorem next_mem {T : TabZ} {st : StZ} {l : List Sym} {i : Nat} (hv : validE T = 0) (hi : i < l.length) (hlang : ∀ x ∈ l, x.lang = 0 ∨ x.lang = 1) {s : StpZ} (hs : s ∈ nextZ T st l i) :
    isM l s.st (i + s.n) < isM l st i ∧ (s.st.lang = 0 ∨ s.st.lang = 1) ∧ i + s.n ≤ l.length ∧ s.n ≤ 8 ∧ s.cells.length ≤ 12 := by
  have hvi := valid_inds hv
  have hx := hlang _ (List.getElem_mem hi)
  rw [← symAt_get hi] at hx
  unfold nextZ at hs
  split at hs
  · rename_i hne
    simp at hs
    subst hs
    refine ⟨?_, hx, by simpa using Nat.le_of_lt hi, by simp, by simp; omega⟩
    unfold isM
    simp only [Nat.add_zero, if_true]
    rw [if_neg (fun e => hne e.symm)]
    omega
  · split at hs
    · simp at hs
      subst hs
      refine ⟨?_, hx, hi, by simp, by simp only [List.length_append, List.length_singleton]; split <;> simp <;> omega⟩
      unfold isM
      simp only
      split <;> split <;> omega
    · obtain ⟨r, hr, hf, h1, h2, h3⟩ := ruleSteps_mem hs
      obtain ⟨k, hk, hk2⟩ := rules_at (T := T) hx
      rw [hk2] at hr
      have hsz := valid_rule hv hk r hr
      have hl := fitsB_len hf
      rw [h1, h2, h3]
      refine ⟨?_, hx, hl, hsz.2.1, by unfold leadZ; simp only [List.length_append]; split <;> split <;> (try simp only [List.length_nil]) <;> omega⟩
      unfold isM
      split <;> split <;> omega
theorem isF_fuel {T : TabZ} {l : List Sym} (hv : validE T = 0) (hlang : ∀ x ∈ l, x.lang = 0 ∨ x.lang = 1) : ∀ (f f' : Nat) (st : StZ) (i : Nat) (C : List Int), isM l st i < f → isM l st i < f' → isF T l f st i C = isF T l f' st i C
  | 0, _, _, _, _, h, _ => by omega
  | _ + 1, 0, _, _, _, _, h => by omega
  | f + 1, f' + 1, st, i, C, h, h' => by
    unfold isF
    by_cases hi : l.length ≤ i
    · rw [if_pos hi, if_pos hi]
    · rw [if_neg hi, if_neg hi]
      rw [Bool.eq_iff_iff]
      simp only [List.any_eq_true, Bool.and_eq_true]
      constructor
      · rintro ⟨s, hs, h1, h2⟩
        have hm := next_mem hv (by omega) hlang hs
        exact ⟨s, hs, h1, by rw [← isF_fuel hv hlang f f' s.st (i + s.n) _ (by omega) (by omega)]; exact h2⟩
      · rintro ⟨s, hs, h1, h2⟩
        have hm := next_mem hv (by omega) hlang hs
        exact ⟨s, hs, h1, by rw [isF_fuel hv hlang f f' s.st (i + s.n) _ (by omega) (by omega)]; exact h2⟩
def isZ (T : TabZ) (l : List Sym) (C : List Int) : Bool := isF T l (2 * l.length + 2) ⟨0, false, false⟩ 0 C
theorem isM_le (l : List Sym) (st : StZ) (i : Nat) : isM l st i ≤ 2 * l.length + 1 := by
  unfold isM
  split <;> omega
theorem range_map59 (f : Nat → Value) : (List.range 59).map f = [f 0, f 1, f 2, f 3, f 4, f 5, f 6, f 7, f 8, f 9, f 10, f 11, f 12, f 13, f 14, f 15, f 16, f 17, f 18, f 19, f 20, f 21, f 22, f 23, f 24, f 25, f 26, f 27, f 28, f 29, f 30, f 31, f 32, f 33, f 34, f 35, f 36, f 37, f 38, f 39, f 40, f 41, f 42, f 43, f 44, f 45, f 46, f 47, f 48, f 49, f 50, f 51, f 52, f 53, f 54, f 55, f 56, f 57, f 58] := rfl
theorem frame59 (t : Array Value) (ds : List Deferred) (h : t.size = 59) : ({ tmps := t, defers := ds } : Act) = { tmps := #[slot t 0, slot t 1, slot t 2, slot t 3, slot t 4, slot t 5, slot t 6, slot t 7, slot t 8, slot t 9, slot t 10, slot t 11, slot t 12, slot t 13, slot t 14, slot t 15, slot t 16, slot t 17, slot t 18, slot t 19, slot t 20, slot t 21, slot t 22, slot t 23, slot t 24, slot t 25, slot t 26, slot t 27, slot t 28, slot t 29, slot t 30, slot t 31, slot t 32, slot t 33, slot t 34, slot t 35, slot t 36, slot t 37, slot t 38, slot t 39, slot t 40, slot t 41, slot t 42, slot t 43, slot t 44, slot t 45, slot t 46, slot t 47, slot t 48, slot t 49, slot t 50, slot t 51, slot t 52, slot t 53, slot t 54, slot t 55, slot t 56, slot t 57, slot t 58], defers := ds } := by
  have e : t = ((List.range 59).map (slot t)).toArray := by
    apply Array.ext
    · simp [h]
    · intro i h1 h2
      simp [slot, Array.getD, h1]
  rw [range_map59] at e
  exact congrArg (fun x => ({ tmps := x, defers := ds } : Act)) e
theorem any_take_succ {α : Type} (p : α → Bool) (l : List α) (k : Nat) (h : k < l.length) : (l.take (k + 1)).any p = ((l.take k).any p || p l[k]) := by
  rw [List.take_succ_eq_append_getElem h, List.any_append]
  simp
def IsX (w0 : World) (V : TabV) (st : StZ) (Bt : Nat) (X : World) : Prop := TbX w0 V Bt X ∧ X.heap[Bt + 1]? = some (.cells #[.int .i64 st.lang, .bool st.num, .bool st.word] 66)
theorem IsX.below {w0 X X' : World} {V : TabV} {st : StZ} {Bt : Nat} (h : IsX w0 V st Bt X) (hb : Below X.heap.size X X') : IsX w0 V st Bt X' := ⟨h.1.below hb, below_push hb h.2⟩
theorem tab7 {w0 : World} {V : TabV} {Bt : Nat} {Y : World} (h : TbX w0 V Bt Y) : Y.cell? ⟨Bt, 0, none⟩ = some V.a ∧ Y.cell? ⟨Bt, 1, none⟩ = some V.b ∧ Y.cell? ⟨Bt, 2, none⟩ = some V.d ∧ Y.cell? ⟨Bt, 3, none⟩ = some V.c ∧ Y.cell? ⟨Bt, 4, none⟩ = some V.n ∧ Y.cell? ⟨Bt, 5, none⟩ = some V.e ∧ Y.cell? ⟨Bt, 6, none⟩ = some V.s := by
  have h2 := h.2
  refine ⟨?_, ?_, ?_, ?_, ?_, ?_, ?_⟩ <;> simp [World.cell?, h2]
set_option maxHeartbeats 4000000 in
theorem isRec_any (V : TabV) (T : TabZ) (lv : Value) (l : List Sym) (w0 : World) (hT : TabIn w0 V T) (hok : TabOk T) (hv : validE T = 0) (h : SymsAt w0 lv l) (hr : SymOk l) (hl : l.length ≤ 1000000) (hlang : ∀ x ∈ l, x.lang = 0 ∨ x.lang = 1) :
    ∀ (f : Nat) (st : StZ) (i : Nat) (cv : Value) (C : List Int) (w : World), isM l st i < f → i ≤ l.length → (st.lang = 0 ∨ st.lang = 1) → Below w0.heap.size w0 w → BysAt w cv C → C.length ≤ 100000 →
    Calls Tryz.prog 55 #[V.v, .agg #[.int .i64 st.lang, .bool st.num, .bool st.word], lv, .int .i64 (i : Nat), cv] w fun e w' => e = .returned (.bool (isF T l f st i C)) ∧ Below w.heap.size w w'
  | 0, _, _, _, _, _, hf, _, _, _, _, _ => by omega
  | f + 1, st, i, cv, C, w, hf, hi, hst, hbw, hC, hCl => by
    have IH := hidep (isRec_any V T lv l w0 hT hok hv h hr hl hlang f)
    obtain ⟨a, cap, rfl, h2, h3⟩ := h.form
    obtain ⟨ca, cc, rfl, hc2, hc3⟩ := hC.1.form
    unfold maxLen at h3 hc3
    have HRES := hidep (show isF T l (f + 1) st i C = if l.length ≤ i then decide (C.length = 0) else (nextZ T st l i).any fun s => begB C s.cells && isF T l f s.st (i + s.n) (C.drop s.cells.length) from rfl)
    obtain ⟨RES, hRES⟩ : ∃ R, R = isF T l (f + 1) st i C := ⟨_, rfl⟩
    rw [← hRES] at HRES ⊢
    obtain ⟨n, hn⟩ : ∃ n, n = l.length := ⟨_, rfl⟩
    have HN := hidep hn
    have HT := hidep (hT.below hbw)
    have HT0 := hidep hT
    have HH := hidep h
    have HMEM := hidep (fun s hs => next_mem (T := T) (st := st) (l := l) (i := i) hv · hlang hs (s := s))
    have HC := hidep hC
    have HF := hidep hf
    have HBW := hidep hbw
    have HNX := hidep (fun hi W (hW : Below w.heap.size w W) => nextR_any V T st _ l i W (hT.below (hbw.trans (hW.mono hbw.size))) hok hv (h.below (hbw.trans (hW.mono hbw.size))) hr hl hi hlang)
    clear hRES hT h hr hlang hok hv hC hf hbw
    rw [← hn] at h2 hl hi HNX IH ⊢
    unfold TabV.v at IH HNX ⊢
    by_cases hin : (n : Int) ≤ (i : Int)
    · have HR2 := hidep (HRES.out.trans (if_pos (by rw [← HN.out]; omega)))
      clear HRES
      by_cases hc0 : C.length = 0
      · have hci : ((C.length : Int) == 0) = true := by simp [hc0]
        have hci2 : (C.length : Int) = 0 := by omega
        have HD := hidep (HR2.out.trans (decide_eq_true hc0))
        clear hc0
        go_enter Tryz.func55, Tryz.ntmps55
        go_wp2
        go_ret
        exact ⟨ret_val (congrArg Value.bool HD.out.symm), ((Below.refl _ _).alloc (Nat.le_refl _) _).alloc (by rw [World.size_alloc]; omega) _⟩
      · have hci : ((C.length : Int) == 0) = false := beq_false_of_ne (by omega)
        have hci2 : ¬ (C.length : Int) = 0 := by omega
        have HD := hidep (HR2.out.trans (decide_eq_false hc0))
        clear hc0
        go_enter Tryz.func55, Tryz.ntmps55
        go_wp2
        go_ret
        exact ⟨ret_val (congrArg Value.bool HD.out.symm), ((Below.refl _ _).alloc (Nat.le_refl _) _).alloc (by rw [World.size_alloc]; omega) _⟩
    · have hin2 : i < n := by omega
      have HR2 := hidep (HRES.out.trans (if_neg (by rw [← HN.out]; omega)))
      have HNX2 := hidep (HNX.out hin2)
      have HME := hidep (HMEM.out (by rw [← HN.out]; exact hin2))
      clear HRES HNX HMEM
      go_enter Tryz.func55, Tryz.ntmps55
      go_upto_region 1 with (fail)
      obtain ⟨Bt, hBt⟩ : ∃ B, B = w.heap.size := ⟨_, rfl⟩
      refine wp_abs (fun X => IsX w V st Bt X) ⟨⟨((Below.refl _ _).alloc (Nat.le_refl _) _).alloc (by rw [World.size_alloc]; omega) _, by rw [hBt]; exact below_push ((Below.refl _ _).alloc (Nat.le_refl _) _) (heap_alloc_new _ _)⟩, by
        rw [hBt]
        have h := heap_alloc_new (w.alloc (.cells #[V.a, V.b, V.d, V.c, V.n, V.e, V.s] 29)) (.cells #[.int .i64 st.lang, .bool st.num, .bool st.word] 66)
        rw [World.size_alloc] at h
        exact h⟩ ?_
      rw [← hBt]
      rintro X hX
      have HX := hidep hX
      have HBT := hidep hBt
      have s0 : X.cell? ⟨Bt + 1, 0, none⟩ = some (.int .i64 st.lang) := by simp [World.cell?, hX.2]
      have s1 : X.cell? ⟨Bt + 1, 1, none⟩ = some (.bool st.num) := by simp [World.cell?, hX.2]
      have s2 : X.cell? ⟨Bt + 1, 2, none⟩ = some (.bool st.word) := by simp [World.cell?, hX.2]
      obtain ⟨b0, b1, b2, b3, b4, b5, b6⟩ := tab7 hX.1
      clear hX hBt hin hn
      go_upto_region 4 with (go_at_call 26; refine (HNX2.out _ HX.out.1.1).mono ?_; rintro e w1 ⟨⟨v1, rfl, hv1⟩, hb1⟩)
      obtain ⟨L, hL⟩ : ∃ L, L = nextZ T st l i := ⟨_, rfl⟩
      rw [← hL] at hv1 HME HR2
      have hsi := hv1.into
      obtain ⟨va, vc, rfl, hvc, hvm⟩ := hsi.form
      unfold maxLen at hvm
      have HSI := hidep hsi
      have HB1 := hidep hb1
      have HXB := HX.out.1.1.trans (hb1.mono HX.out.1.1.size)
      have HX1 := hidep (HX.out.below hb1)
      clear hL hv1 hsi s0 s1 s2 b0 b1 b2 b3 b4 b5 b6 hb1
      go_upto_region 5 with (fail)
      refine wp_loop (LoopI 59 (fun tm ds wr => (slot tm 2) = .slice a n cap ∧ (slot tm 3) = .int .i64 (i : Nat) ∧ (slot tm 4) = .slice ca C.length cc ∧ (slot tm 5) = .pointer (some ⟨Bt, 0, none⟩) ∧ (slot tm 11) = .slice va L.length vc ∧ ds = [] ∧ ∃ k : Nat, k ≤ L.length ∧ (slot tm 12) = .int .i64 (k : Nat) ∧ Hid (((L.take k).any fun s => begB C s.cells && isF T l f s.st (i + s.n) (C.drop s.cells.length)) = false) ∧ Below w1.heap.size w1 wr)) (fun a' wr => L.length - natI (a'.tmps.getD 12 undef)) ?nlStart ?nlRound
      case' nlStart => refine LoopI.mk rfl ?_
      case' nlRound => (rintro ⟨t, ds⟩ wr ⟨hts, hrel⟩; dsimp only at hts hrel; rw [frame59 t ds hts])
      case nlStart => exact ⟨rfl, rfl, rfl, rfl, rfl, rfl, 0, Nat.zero_le _, rfl, hidep rfl, Below.refl _ _⟩
      obtain ⟨e2, e3, e4, e5, e11, hds, k, hk, e12, HG, hbw⟩ := hrel
      subst hds
      rw [e2, e3, e4, e5, e11, e12]
      clear e2 e3 e4 e5 e11 e12 hts
      have HBR := hidep hbw
      by_cases hkL : k < L.length
      · have hki : (k : Int) < (L.length : Int) := by omega
        have hk1 : (0 : Int) ≤ (k : Int) := by omega
        have hwk : IntKind.i64.wrap ((k : Int) + 1) = (k : Int) + 1 := IntWalk.i64_in _ (by omega)
        have HTS := hidep (any_take_succ (fun s => begB C s.cells && isF T l f s.st (i + s.n) (C.drop s.cells.length)) L k hkL)
        have HANY := hidep (show (begB C L[k].cells && isF T l f L[k].st (i + L[k].n) (C.drop L[k].cells.length)) = true → (L.any fun s => begB C s.cells && isF T l f s.st (i + s.n) (C.drop s.cells.length)) = true from fun h => List.any_eq_true.2 ⟨_, List.getElem_mem hkL, h⟩)
        have hme := HME.out _ (List.getElem_mem hkL)
        obtain ⟨b, off, s, ua, uc, hs, rfl, hrb, r0, r1, r2, r3, r4, r5, hu⟩ := HSI.out.get hkL
        rw [hs] at HTS HANY hme
        clear hs
        have hBC := HC.out.below (HXB.trans (hbw.mono HXB.size))
        have hBU := hu.below hbw
        have HBG := hidep (beginsR_any _ _ C s.cells 0 wr hBC hBU (Nat.zero_le _) (by omega) (by omega))
        rw [List.drop_zero] at HBG
        have HW := hidep (fun W (hW : Below w1.heap.size w1 W) => by
          have hn := HX1.out.below hW
          exact (⟨(hW.cell (p := ⟨b, off + k * 6, none⟩) hrb).trans r0, (hW.cell (p := ⟨b, off + k * 6 + 1, none⟩) hrb).trans r1, (hW.cell (p := ⟨b, off + k * 6 + 2, none⟩) hrb).trans r2, (hW.cell (p := ⟨b, off + k * 6 + 3, none⟩) hrb).trans r3, (hW.cell (p := ⟨b, off + k * 6 + 4, none⟩) hrb).trans r4, tab7 hn.1⟩ :
            W.cell? ⟨b, off + k * 6, none⟩ = some (.int .i64 s.st.lang) ∧ W.cell? ⟨b, off + k * 6 + 1, none⟩ = some (.bool s.st.num) ∧ W.cell? ⟨b, off + k * 6 + 2, none⟩ = some (.bool s.st.word) ∧ W.cell? ⟨b, off + k * 6 + 3, none⟩ = some (.int .i64 (s.n : Nat)) ∧ W.cell? ⟨b, off + k * 6 + 4, none⟩ = some (.slice ua s.cells.length uc) ∧ _))
        obtain ⟨g0, g1, g2, g3, g4, q0, q1, q2, q3, q4, q5, q6⟩ := HW.out _ hbw
        obtain ⟨bb, hbb⟩ : ∃ x, x = begB C s.cells := ⟨_, rfl⟩
        have HBB := hidep hbb
        rw [← hbb] at HBG HTS HANY
        cases bb with
        | false =>
          have HT2 := hidep (HTS.out.trans (by rw [HG.out, Bool.false_and, Bool.or_false]))
          clear hbb hBC hBU r0 r1 r2 r3 r4 r5 hu hme hbw
          go_wp2_with (go_at_call 95; refine HBG.out.mono ?_; rintro e w2 ⟨rfl, hb2⟩)
          refine ⟨LoopI.mk rfl ⟨rfl, rfl, rfl, rfl, rfl, rfl, k + 1, by omega, by show Value.int _ _ = _; go_num, HT2, HBR.out.trans (hb2.mono HBR.out.size)⟩, ?_⟩
          show L.length - _ < L.length - _
          simp [natI]; omega
        | true =>
          have hle := begB_len hbb.symm
          have hdr := HC.out.drop hle
          have hfl := HF.out
          have HIS := hidep (fun W (hW : Below w1.heap.size w1 W) vv (hvv : Value.slice (if cc = s.cells.length then ca else ca.map (·.add s.cells.length)) (C.length - s.cells.length) (cc - s.cells.length) = vv) => by
            have hh := IH.out s.st (i + s.n) _ (C.drop s.cells.length) W (by omega) (by rw [HN.out]; exact hme.2.2.1) hme.2.1 (HBW.out.trans ((HXB.trans (hW.mono HXB.size)).mono HBW.out.size)) (hdr.below (HXB.trans (hW.mono HXB.size))) (by rw [List.length_drop]; omega)
            rw [hvv, Int.natCast_add] at hh
            exact hh)
          have hin8 := hme.2.2.2.1
          have hwi : IntKind.i64.wrap ((i : Int) + (s.n : Int)) = (i : Int) + (s.n : Int) := IntWalk.i64_in _ (by omega)
          obtain ⟨rb2, hrb2⟩ : ∃ x, x = isF T l f s.st (i + s.n) (C.drop s.cells.length) := ⟨_, rfl⟩
          rw [← hrb2] at HIS HTS HANY
          rw [Bool.true_and] at HTS HANY
          have hl1 : (s.cells.length : Int) ≤ (C.length : Int) := by omega
          have hl2 : (C.length : Int) ≤ (cc : Int) := by omega
          have hl3 : (s.cells.length : Int) ≤ (cc : Int) := by omega
          clear hbb hBC hBU r0 r1 r2 r3 r4 r5 hu hme hbw hdr hfl hrb2 HBB
          obtain ⟨m, hm⟩ : ∃ m, m = s.cells.length := ⟨_, rfl⟩
          obtain ⟨N, hN⟩ : ∃ N, N = C.length := ⟨_, rfl⟩
          rw [← hm] at HW g4 HIS HBG hl1 hl3 hle
          rw [← hN] at HIS HBG hl1 hl2 hle hCl hc2 ⊢
          clear hm hN
          go_upto_region 9 with (go_at_call 95; refine HBG.out.mono ?_; rintro e w2 ⟨rfl, hb2⟩)
          have HB2 := hidep (HBR.out.trans (hb2.mono HBR.out.size))
          clear g0 g1 g2 g3 g4 q0 q1 q2 q3 q4 q5 q6 hb2 HBG
          by_cases hvk : cc = m
          case pos =>
            have HVK := hidep hvk
            refine wp_region_noPanic (wp_region_held_drew (S := (fun Z => Below w1.heap.size w1 Z)) (by kernel_rfl) ?hSz0 (fun hHeld => ?hRz0))
            case hSz0 => ((try dsimp only); (exact HB2.out.drew))
            refine wpAnyH_take (i := 0) (v := ?vz1) rfl (by kernel_rfl) (by kernel_rfl) (by kernel_rfl) (fun _ _ _ h => h) (Or.inl ⟨by kernel_rfl, ?hyz1⟩) (by assumption) ?hrz1
            case hyz1 => (intro w hSw; (try dsimp only at hSw); (obtain ⟨g0, g1, g2, g3, g4, q0, q1, q2, q3, q4, q5, q6⟩ := HW.out _ hSw); first | (go_simp; done) | (go_simp; with_reducible rfl))
            refine wpAnyH_take (i := 1) (v := ?vz2) rfl (by kernel_rfl) (by kernel_rfl) (by kernel_rfl) (fun _ _ _ h => h) (Or.inl ⟨by kernel_rfl, ?hyz2⟩) (by assumption) ?hrz2
            case hyz2 => (intro w hSw; (try dsimp only at hSw); (obtain ⟨g0, g1, g2, g3, g4, q0, q1, q2, q3, q4, q5, q6⟩ := HW.out _ hSw); first | (go_simp; done) | (go_simp; with_reducible rfl))
            refine wpAnyH_take (i := 2) (v := ?vz3) rfl (by kernel_rfl) (by kernel_rfl) (by kernel_rfl) (fun _ _ _ h => h) (Or.inl ⟨by kernel_rfl, ?hyz3⟩) (by assumption) ?hrz3
            case hyz3 => (intro w hSw; (try dsimp only at hSw); (obtain ⟨g0, g1, g2, g3, g4, q0, q1, q2, q3, q4, q5, q6⟩ := HW.out _ hSw); first | (go_simp; done) | (go_simp; with_reducible rfl))
            refine wpAnyH_take (i := 3) (v := ?vz4) rfl (by kernel_rfl) (by kernel_rfl) (by kernel_rfl) (fun _ _ _ h => h) (Or.inl ⟨by kernel_rfl, ?hyz4⟩) (by assumption) ?hrz4
            case hyz4 => (intro w hSw; (try dsimp only at hSw); (obtain ⟨g0, g1, g2, g3, g4, q0, q1, q2, q3, q4, q5, q6⟩ := HW.out _ hSw); first | (go_simp; done) | (go_simp; with_reducible rfl))
            refine wpAnyH_take (i := 4) (v := ?vz5) rfl (by kernel_rfl) (by kernel_rfl) (by kernel_rfl) (fun _ _ _ h => h) (Or.inl ⟨by kernel_rfl, ?hyz5⟩) (by assumption) ?hrz5
            case hyz5 => (intro w hSw; (try dsimp only at hSw); (obtain ⟨g0, g1, g2, g3, g4, q0, q1, q2, q3, q4, q5, q6⟩ := HW.out _ hSw); first | (go_simp; done) | (go_simp; with_reducible rfl))
            refine wpAnyH_take (i := 5) (v := ?vz6) rfl (by kernel_rfl) (by kernel_rfl) (by kernel_rfl) (fun _ _ _ h => h) (Or.inl ⟨by kernel_rfl, ?hyz6⟩) (by assumption) ?hrz6
            case hyz6 => (intro w hSw; (try dsimp only at hSw); (obtain ⟨g0, g1, g2, g3, g4, q0, q1, q2, q3, q4, q5, q6⟩ := HW.out _ hSw); first | (go_simp; done) | (go_simp; with_reducible rfl))
            refine wpAnyH_take (i := 6) (v := ?vz7) rfl (by kernel_rfl) (by kernel_rfl) (by kernel_rfl) (fun _ _ _ h => h) (Or.inl ⟨by kernel_rfl, ?hyz7⟩) (by assumption) ?hrz7
            case hyz7 => (intro w hSw; (try dsimp only at hSw); (obtain ⟨g0, g1, g2, g3, g4, q0, q1, q2, q3, q4, q5, q6⟩ := HW.out _ hSw); first | (go_simp; done) | (go_simp; with_reducible rfl))
            refine wpAnyH_take (i := 7) (v := ?vz8) rfl (by kernel_rfl) (by kernel_rfl) (by kernel_rfl) (fun _ _ _ h => h) (Or.inl ⟨by kernel_rfl, ?hyz8⟩) (by assumption) ?hrz8
            case hyz8 => (intro w hSw; (try dsimp only at hSw); (obtain ⟨g0, g1, g2, g3, g4, q0, q1, q2, q3, q4, q5, q6⟩ := HW.out _ hSw); first | (go_simp; done) | (go_simp; with_reducible rfl))
            refine wpAnyH_take (i := 8) (v := ?vz9) rfl (by kernel_rfl) (by kernel_rfl) (by kernel_rfl) (fun _ _ _ h => h) (Or.inl ⟨by kernel_rfl, ?hyz9⟩) (by assumption) ?hrz9
            case hyz9 => (intro w hSw; (try dsimp only at hSw); (obtain ⟨g0, g1, g2, g3, g4, q0, q1, q2, q3, q4, q5, q6⟩ := HW.out _ hSw); first | (go_simp; done) | (go_simp; with_reducible rfl))
            refine wpAnyH_take (i := 9) (v := ?vz10) rfl (by kernel_rfl) (by kernel_rfl) (by kernel_rfl) (fun _ _ _ h => h) (Or.inl ⟨by kernel_rfl, ?hyz10⟩) (by assumption) ?hrz10
            case hyz10 => (intro w hSw; (try dsimp only at hSw); (obtain ⟨g0, g1, g2, g3, g4, q0, q1, q2, q3, q4, q5, q6⟩ := HW.out _ hSw); first | (go_simp; done) | (go_simp; with_reducible rfl))
            refine wpAnyH_take (i := 10) (v := ?vz11) rfl (by kernel_rfl) (by kernel_rfl) (by kernel_rfl) (fun _ _ _ h => h) (Or.inl ⟨by kernel_rfl, ?hyz11⟩) (by assumption) ?hrz11
            case hyz11 => (intro w hSw; (try dsimp only at hSw); (obtain ⟨g0, g1, g2, g3, g4, q0, q1, q2, q3, q4, q5, q6⟩ := HW.out _ hSw); first | (go_simp; done) | (go_simp; with_reducible rfl))
            refine wpAnyH_take (i := 11) (v := ?vz12) rfl (by kernel_rfl) (by kernel_rfl) (by kernel_rfl) (fun _ _ _ h => h) (Or.inl ⟨by kernel_rfl, ?hyz12⟩) (by assumption) ?hrz12
            case hyz12 => (intro w hSw; (try dsimp only at hSw); (obtain ⟨g0, g1, g2, g3, g4, q0, q1, q2, q3, q4, q5, q6⟩ := HW.out _ hSw); first | (go_simp; done) | (go_simp; with_reducible rfl))
            refine wpAnyH_take (i := 12) (v := ?vz13) rfl (by kernel_rfl) (by kernel_rfl) (by kernel_rfl) (fun _ _ _ h => h) (Or.inl ⟨by kernel_rfl, ?hyz13⟩) (by assumption) ?hrz13
            case hyz13 => (intro w hSw; (try dsimp only at hSw); (obtain ⟨g0, g1, g2, g3, g4, q0, q1, q2, q3, q4, q5, q6⟩ := HW.out _ hSw); first | (go_simp; done) | (go_simp; with_reducible rfl))
            refine wpAnyH_take (i := 13) (v := ?vz14) rfl (by kernel_rfl) (by kernel_rfl) (by kernel_rfl) (fun _ _ _ h => h) (Or.inl ⟨by kernel_rfl, ?hyz14⟩) (by assumption) ?hrz14
            case hyz14 => (intro w hSw; (try dsimp only at hSw); (obtain ⟨g0, g1, g2, g3, g4, q0, q1, q2, q3, q4, q5, q6⟩ := HW.out _ hSw); first | (go_simp; done) | (go_simp; with_reducible rfl))
            refine wpAnyH_take (i := 14) (v := ?vz15) rfl (by kernel_rfl) (by kernel_rfl) (by kernel_rfl) (fun _ _ _ h => h) (Or.inl ⟨by kernel_rfl, ?hyz15⟩) (by assumption) ?hrz15
            case hyz15 => (intro w hSw; (try dsimp only at hSw); (obtain ⟨g0, g1, g2, g3, g4, q0, q1, q2, q3, q4, q5, q6⟩ := HW.out _ hSw); first | (go_simp; done) | (go_simp; with_reducible rfl))
            refine wpAnyH_take (i := 15) (v := ?vz16) rfl (by kernel_rfl) (by kernel_rfl) (by kernel_rfl) (fun _ _ _ h => h) (Or.inl ⟨by kernel_rfl, ?hyz16⟩) (by assumption) ?hrz16
            case hyz16 => (intro w hSw; (try dsimp only at hSw); (obtain ⟨g0, g1, g2, g3, g4, q0, q1, q2, q3, q4, q5, q6⟩ := HW.out _ hSw); first | (go_simp; done) | (go_simp; with_reducible rfl))
            refine wpAnyH_take (i := 16) (v := ?vz17) rfl (by kernel_rfl) (by kernel_rfl) (by kernel_rfl) (fun _ _ _ h => h) (Or.inl ⟨by kernel_rfl, ?hyz17⟩) (by assumption) ?hrz17
            case hyz17 => (intro w hSw; (try dsimp only at hSw); (obtain ⟨g0, g1, g2, g3, g4, q0, q1, q2, q3, q4, q5, q6⟩ := HW.out _ hSw); first | (go_simp; done) | (go_simp; with_reducible rfl))
            refine wpAnyH_take (i := 17) (v := ?vz18) rfl (by kernel_rfl) (by kernel_rfl) (by kernel_rfl) (fun _ _ _ h => h) (Or.inl ⟨by kernel_rfl, ?hyz18⟩) (by assumption) ?hrz18
            case hyz18 => (intro w hSw; (try dsimp only at hSw); (obtain ⟨g0, g1, g2, g3, g4, q0, q1, q2, q3, q4, q5, q6⟩ := HW.out _ hSw); first | (go_simp; done) | (go_simp; with_reducible rfl))
            refine wpAnyH_ready (rs := [18]) (by kernel_rfl) (by simp) (AllReadyH.cons rfl (fun K hK => ?hcz19) AllReadyH.nil)
            go_simp
            (go_at_call 55; refine (HIS.out _ hHeld _ (by simp [HVK.out])).mono ?_; rintro e' w8 ⟨rfl, hb8⟩; have hk := hHeld.trans (hb8.mono hHeld.size); (try dsimp only))
            refine hK.out _ _ ?hsz19 (fun hHeldz19 => ?htz19)
            case hsz19 => ((try dsimp only); (exact hk))
            clear hHeld hK
            have hHeld := hHeldz19
            clear hHeldz19
            refine wpAnyH_done (by kernel_rfl) ?_ _
            clear hHeld
            refine NoPanic.normal ?_
            cases rb2 with
            | false =>
              have HT2 := hidep (HTS.out.trans (by rw [HG.out, Bool.false_or]))
              go_wp2
              refine ⟨LoopI.mk rfl ⟨rfl, rfl, by first | rfl | (rw [HVK.out]; rfl), rfl, rfl, rfl, k + 1, by omega, by show Value.int _ _ = _; go_num, HT2, hk⟩, ?_⟩
              show L.length - _ < L.length - _
              simp [natI]; omega
            | true =>
              have HE := hidep (show RES = true from by rw [HR2.out]; exact HANY.out rfl)
              go_wp2
              go_ret
              exact ⟨ret_val (congrArg Value.bool HE.out.symm), HXB.trans (hk.mono HXB.size)⟩
          case neg =>
            have HVK := hidep hvk
            refine wp_region_noPanic (wp_region_held_drew (S := (fun Z => Below w1.heap.size w1 Z)) (by kernel_rfl) ?hSz20 (fun hHeld => ?hRz20))
            case hSz20 => ((try dsimp only); (exact HB2.out.drew))
            refine wpAnyH_take (i := 0) (v := ?vz21) rfl (by kernel_rfl) (by kernel_rfl) (by kernel_rfl) (fun _ _ _ h => h) (Or.inl ⟨by kernel_rfl, ?hyz21⟩) (by assumption) ?hrz21
            case hyz21 => (intro w hSw; (try dsimp only at hSw); (obtain ⟨g0, g1, g2, g3, g4, q0, q1, q2, q3, q4, q5, q6⟩ := HW.out _ hSw); first | (go_simp; done) | (go_simp; with_reducible rfl))
            refine wpAnyH_take (i := 1) (v := ?vz22) rfl (by kernel_rfl) (by kernel_rfl) (by kernel_rfl) (fun _ _ _ h => h) (Or.inl ⟨by kernel_rfl, ?hyz22⟩) (by assumption) ?hrz22
            case hyz22 => (intro w hSw; (try dsimp only at hSw); (obtain ⟨g0, g1, g2, g3, g4, q0, q1, q2, q3, q4, q5, q6⟩ := HW.out _ hSw); first | (go_simp; done) | (go_simp; with_reducible rfl))
            refine wpAnyH_take (i := 2) (v := ?vz23) rfl (by kernel_rfl) (by kernel_rfl) (by kernel_rfl) (fun _ _ _ h => h) (Or.inl ⟨by kernel_rfl, ?hyz23⟩) (by assumption) ?hrz23
            case hyz23 => (intro w hSw; (try dsimp only at hSw); (obtain ⟨g0, g1, g2, g3, g4, q0, q1, q2, q3, q4, q5, q6⟩ := HW.out _ hSw); first | (go_simp; done) | (go_simp; with_reducible rfl))
            refine wpAnyH_take (i := 3) (v := ?vz24) rfl (by kernel_rfl) (by kernel_rfl) (by kernel_rfl) (fun _ _ _ h => h) (Or.inl ⟨by kernel_rfl, ?hyz24⟩) (by assumption) ?hrz24
            case hyz24 => (intro w hSw; (try dsimp only at hSw); (obtain ⟨g0, g1, g2, g3, g4, q0, q1, q2, q3, q4, q5, q6⟩ := HW.out _ hSw); first | (go_simp; done) | (go_simp; with_reducible rfl))
            refine wpAnyH_take (i := 4) (v := ?vz25) rfl (by kernel_rfl) (by kernel_rfl) (by kernel_rfl) (fun _ _ _ h => h) (Or.inl ⟨by kernel_rfl, ?hyz25⟩) (by assumption) ?hrz25
            case hyz25 => (intro w hSw; (try dsimp only at hSw); (obtain ⟨g0, g1, g2, g3, g4, q0, q1, q2, q3, q4, q5, q6⟩ := HW.out _ hSw); first | (go_simp; done) | (go_simp; with_reducible rfl))
            refine wpAnyH_take (i := 5) (v := ?vz26) rfl (by kernel_rfl) (by kernel_rfl) (by kernel_rfl) (fun _ _ _ h => h) (Or.inl ⟨by kernel_rfl, ?hyz26⟩) (by assumption) ?hrz26
            case hyz26 => (intro w hSw; (try dsimp only at hSw); (obtain ⟨g0, g1, g2, g3, g4, q0, q1, q2, q3, q4, q5, q6⟩ := HW.out _ hSw); first | (go_simp; done) | (go_simp; with_reducible rfl))
            refine wpAnyH_take (i := 6) (v := ?vz27) rfl (by kernel_rfl) (by kernel_rfl) (by kernel_rfl) (fun _ _ _ h => h) (Or.inl ⟨by kernel_rfl, ?hyz27⟩) (by assumption) ?hrz27
            case hyz27 => (intro w hSw; (try dsimp only at hSw); (obtain ⟨g0, g1, g2, g3, g4, q0, q1, q2, q3, q4, q5, q6⟩ := HW.out _ hSw); first | (go_simp; done) | (go_simp; with_reducible rfl))
            refine wpAnyH_take (i := 7) (v := ?vz28) rfl (by kernel_rfl) (by kernel_rfl) (by kernel_rfl) (fun _ _ _ h => h) (Or.inl ⟨by kernel_rfl, ?hyz28⟩) (by assumption) ?hrz28
            case hyz28 => (intro w hSw; (try dsimp only at hSw); (obtain ⟨g0, g1, g2, g3, g4, q0, q1, q2, q3, q4, q5, q6⟩ := HW.out _ hSw); first | (go_simp; done) | (go_simp; with_reducible rfl))
            refine wpAnyH_take (i := 8) (v := ?vz29) rfl (by kernel_rfl) (by kernel_rfl) (by kernel_rfl) (fun _ _ _ h => h) (Or.inl ⟨by kernel_rfl, ?hyz29⟩) (by assumption) ?hrz29
            case hyz29 => (intro w hSw; (try dsimp only at hSw); (obtain ⟨g0, g1, g2, g3, g4, q0, q1, q2, q3, q4, q5, q6⟩ := HW.out _ hSw); first | (go_simp; done) | (go_simp; with_reducible rfl))
            refine wpAnyH_take (i := 9) (v := ?vz30) rfl (by kernel_rfl) (by kernel_rfl) (by kernel_rfl) (fun _ _ _ h => h) (Or.inl ⟨by kernel_rfl, ?hyz30⟩) (by assumption) ?hrz30
            case hyz30 => (intro w hSw; (try dsimp only at hSw); (obtain ⟨g0, g1, g2, g3, g4, q0, q1, q2, q3, q4, q5, q6⟩ := HW.out _ hSw); first | (go_simp; done) | (go_simp; with_reducible rfl))
            refine wpAnyH_take (i := 10) (v := ?vz31) rfl (by kernel_rfl) (by kernel_rfl) (by kernel_rfl) (fun _ _ _ h => h) (Or.inl ⟨by kernel_rfl, ?hyz31⟩) (by assumption) ?hrz31
            case hyz31 => (intro w hSw; (try dsimp only at hSw); (obtain ⟨g0, g1, g2, g3, g4, q0, q1, q2, q3, q4, q5, q6⟩ := HW.out _ hSw); first | (go_simp; done) | (go_simp; with_reducible rfl))
            refine wpAnyH_take (i := 11) (v := ?vz32) rfl (by kernel_rfl) (by kernel_rfl) (by kernel_rfl) (fun _ _ _ h => h) (Or.inl ⟨by kernel_rfl, ?hyz32⟩) (by assumption) ?hrz32
            case hyz32 => (intro w hSw; (try dsimp only at hSw); (obtain ⟨g0, g1, g2, g3, g4, q0, q1, q2, q3, q4, q5, q6⟩ := HW.out _ hSw); first | (go_simp; done) | (go_simp; with_reducible rfl))
            refine wpAnyH_take (i := 12) (v := ?vz33) rfl (by kernel_rfl) (by kernel_rfl) (by kernel_rfl) (fun _ _ _ h => h) (Or.inl ⟨by kernel_rfl, ?hyz33⟩) (by assumption) ?hrz33
            case hyz33 => (intro w hSw; (try dsimp only at hSw); (obtain ⟨g0, g1, g2, g3, g4, q0, q1, q2, q3, q4, q5, q6⟩ := HW.out _ hSw); first | (go_simp; done) | (go_simp; with_reducible rfl))
            refine wpAnyH_take (i := 13) (v := ?vz34) rfl (by kernel_rfl) (by kernel_rfl) (by kernel_rfl) (fun _ _ _ h => h) (Or.inl ⟨by kernel_rfl, ?hyz34⟩) (by assumption) ?hrz34
            case hyz34 => (intro w hSw; (try dsimp only at hSw); (obtain ⟨g0, g1, g2, g3, g4, q0, q1, q2, q3, q4, q5, q6⟩ := HW.out _ hSw); first | (go_simp; done) | (go_simp; with_reducible rfl))
            refine wpAnyH_take (i := 14) (v := ?vz35) rfl (by kernel_rfl) (by kernel_rfl) (by kernel_rfl) (fun _ _ _ h => h) (Or.inl ⟨by kernel_rfl, ?hyz35⟩) (by assumption) ?hrz35
            case hyz35 => (intro w hSw; (try dsimp only at hSw); (obtain ⟨g0, g1, g2, g3, g4, q0, q1, q2, q3, q4, q5, q6⟩ := HW.out _ hSw); first | (go_simp; done) | (go_simp; with_reducible rfl))
            refine wpAnyH_take (i := 15) (v := ?vz36) rfl (by kernel_rfl) (by kernel_rfl) (by kernel_rfl) (fun _ _ _ h => h) (Or.inl ⟨by kernel_rfl, ?hyz36⟩) (by assumption) ?hrz36
            case hyz36 => (intro w hSw; (try dsimp only at hSw); (obtain ⟨g0, g1, g2, g3, g4, q0, q1, q2, q3, q4, q5, q6⟩ := HW.out _ hSw); first | (go_simp; done) | (go_simp; with_reducible rfl))
            refine wpAnyH_take (i := 16) (v := ?vz37) rfl (by kernel_rfl) (by kernel_rfl) (by kernel_rfl) (fun _ _ _ h => h) (Or.inl ⟨by kernel_rfl, ?hyz37⟩) (by assumption) ?hrz37
            case hyz37 => (intro w hSw; (try dsimp only at hSw); (obtain ⟨g0, g1, g2, g3, g4, q0, q1, q2, q3, q4, q5, q6⟩ := HW.out _ hSw); first | (go_simp; done) | (go_simp; with_reducible rfl))
            refine wpAnyH_take (i := 17) (v := ?vz38) rfl (by kernel_rfl) (by kernel_rfl) (by kernel_rfl) (fun _ _ _ h => h) (Or.inl ⟨by kernel_rfl, ?hyz38⟩) (by assumption) ?hrz38
            case hyz38 => (intro w hSw; (try dsimp only at hSw); (obtain ⟨g0, g1, g2, g3, g4, q0, q1, q2, q3, q4, q5, q6⟩ := HW.out _ hSw); first | (go_simp; done) | (go_simp; with_reducible rfl))
            refine wpAnyH_ready (rs := [18]) (by kernel_rfl) (by simp) (AllReadyH.cons rfl (fun K hK => ?hcz39) AllReadyH.nil)
            go_simp
            (go_at_call 55; refine (HIS.out _ hHeld _ (by simp [HVK.out])).mono ?_; rintro e' w8 ⟨rfl, hb8⟩; have hk := hHeld.trans (hb8.mono hHeld.size); (try dsimp only))
            refine hK.out _ _ ?hsz39 (fun hHeldz39 => ?htz39)
            case hsz39 => ((try dsimp only); (exact hk))
            clear hHeld hK
            have hHeld := hHeldz39
            clear hHeldz39
            refine wpAnyH_done (by kernel_rfl) ?_ _
            clear hHeld
            refine NoPanic.normal ?_
            cases rb2 with
            | false =>
              have HT2 := hidep (HTS.out.trans (by rw [HG.out, Bool.false_or]))
              go_wp2
              refine ⟨LoopI.mk rfl ⟨rfl, rfl, by first | rfl | (rw [HVK.out]; rfl), rfl, rfl, rfl, k + 1, by omega, by show Value.int _ _ = _; go_num, HT2, hk⟩, ?_⟩
              show L.length - _ < L.length - _
              simp [natI]; omega
            | true =>
              have HE := hidep (show RES = true from by rw [HR2.out]; exact HANY.out rfl)
              go_wp2
              go_ret
              exact ⟨ret_val (congrArg Value.bool HE.out.symm), HXB.trans (hk.mono HXB.size)⟩
      · have hki : ¬ (k : Int) < (L.length : Int) := by omega
        have hke : k = L.length := by omega
        have HE := hidep (show RES = false from by rw [HR2.out, ← HG.out, hke, List.take_length])
        clear hbw
        go_wp2
        go_ret
        exact ⟨ret_val (congrArg Value.bool HE.out.symm), HXB.trans (HBR.out.mono HXB.size)⟩
theorem good_lang {x : Sym} (h : goodB x = true) : x.lang = 0 ∨ x.lang = 1 := by
  unfold goodB at h
  simp only [Bool.and_eq_true, decide_eq_true_eq] at h
  omega
set_option maxHeartbeats 1000000 in
theorem isTop_any (V : TabV) (T : TabZ) (lv cv : Value) (l : List Sym) (C : List Int) (w : World) (hT : TabIn w V T) (hok : TabOk T) (h : SymsAt w lv l) (hr : SymOk l) (hl : l.length ≤ 1000000) (hC : BysAt w cv C) (hCl : C.length ≤ 100000) :
    Calls Tryz.prog 21 #[V.v, lv, cv] w fun e w' => e = .returned (.bool (decide (validE T = 0) && (l.all goodB && (decide (l.length ≤ 2048) && (decide (C.length ≤ 8192) && isZ T l C))))) ∧ Below w.heap.size w w' := by
  have HVR := hidep (fun W (hW : Below w.heap.size w W) => validR_any V T W (hT.below hW) hok)
  have HGD := hidep (fun W (hW : Below w.heap.size w W) => good_any lv l W (h.below hW))
  have HIS := hidep (fun (hv : validE T = 0) (hlang : ∀ x ∈ l, x.lang = 0 ∨ x.lang = 1) W (hW : Below w.heap.size w W) => isRec_any V T lv l w hT hok hv h hr hl hlang (2 * l.length + 2) ⟨0, false, false⟩ 0 cv C W (Nat.lt_succ_of_le (isM_le _ _ _)) (Nat.zero_le _) (.inl rfl) hW (hC.below hW) hCl)
  have HLG := hidep (show l.all goodB = true → ∀ x ∈ l, x.lang = 0 ∨ x.lang = 1 from fun hg x hx => good_lang (List.all_eq_true.1 hg x hx))
  obtain ⟨a, cap, rfl, h2, h3⟩ := h.form
  obtain ⟨ca, cc, rfl, hc2, hc3⟩ := hC.1.form
  unfold maxLen at h3 hc3
  obtain ⟨R, hR⟩ : ∃ R, R = (decide (validE T = 0) && (l.all goodB && (decide (l.length ≤ 2048) && (decide (C.length ≤ 8192) && isZ T l C)))) := ⟨_, rfl⟩
  rw [← hR]
  have HRR := hidep hR
  have HISZ := hidep (show isF T l (2 * l.length + 2) ⟨0, false, false⟩ 0 C = isZ T l C from rfl)
  obtain ⟨z, hz⟩ : ∃ z, z = isZ T l C := ⟨_, rfl⟩
  rw [HISZ.out, ← hz] at HIS
  rw [← hz] at HRR
  obtain ⟨g, hg⟩ : ∃ g, g = l.all goodB := ⟨_, rfl⟩
  rw [← hg] at HGD HRR HLG
  obtain ⟨E, hE⟩ : ∃ E, E = validE T := ⟨_, rfl⟩
  rw [← hE] at HVR HRR HIS
  obtain ⟨n, hn⟩ : ∃ n, n = l.length := ⟨_, rfl⟩
  rw [← hn] at h2 HRR HGD HIS ⊢
  obtain ⟨m, hm⟩ : ∃ m, m = C.length := ⟨_, rfl⟩
  rw [← hm] at hc2 HRR HIS ⊢
  clear hT hok h hr hl hC hCl hR hz hg hE hn hm HISZ
  unfold TabV.v at HVR HIS ⊢
  have hb0 : ∀ o, Below w.heap.size w (w.alloc o) := fun o => (Below.refl _ _).alloc (Nat.le_refl _) o
  have HB0 := hidep hb0
  clear hb0
  by_cases hE0 : E = 0
  case neg =>
    have hne : (E != 0) = true := by simp [hE0]
    have HF := hidep (HRR.out.trans (by rw [decide_eq_false hE0, Bool.false_and]))
    clear hE0
    go_enter Tryz.func21, Tryz.ntmps21
    go_wp2_with (go_at_call 33; refine (HVR.out _ (HB0.out _)).mono ?_; rintro e w1 ⟨rfl, hb1⟩)
    go_ret
    exact ⟨ret_val (congrArg Value.bool HF.out.symm), (HB0.out _).trans (hb1.mono (HB0.out _).size)⟩
  have hne : (E != 0) = false := by simp [hE0]
  have HE0 := hidep hE0
  cases g with
  | false =>
    have HF := hidep (HRR.out.trans (by rw [Bool.false_and, Bool.and_false]))
    go_enter Tryz.func21, Tryz.ntmps21
    go_wp2_with (first
      | (go_at_call 33; refine (HVR.out _ (HB0.out _)).mono ?_; rintro e w1 ⟨rfl, hb1⟩)
      | (go_at_call 54; refine (HGD.out _ ((HB0.out _).trans (hb1.mono (HB0.out _).size))).mono ?_; rintro e w2 ⟨rfl, rfl⟩))
    go_ret
    exact ⟨ret_val (congrArg Value.bool HF.out.symm), (HB0.out _).trans (hb1.mono (HB0.out _).size)⟩
  | true =>
    by_cases hn2 : (n : Int) > 2048
    case pos =>
      have HF := hidep (HRR.out.trans (by rw [decide_eq_false (by omega : ¬ n ≤ 2048), Bool.false_and, Bool.and_false, Bool.and_false]))
      go_enter Tryz.func21, Tryz.ntmps21
      go_wp2_with (first
        | (go_at_call 33; refine (HVR.out _ (HB0.out _)).mono ?_; rintro e w1 ⟨rfl, hb1⟩)
        | (go_at_call 54; refine (HGD.out _ ((HB0.out _).trans (hb1.mono (HB0.out _).size))).mono ?_; rintro e w2 ⟨rfl, rfl⟩))
      go_ret
      exact ⟨ret_val (congrArg Value.bool HF.out.symm), (HB0.out _).trans (hb1.mono (HB0.out _).size)⟩
    by_cases hm2 : (m : Int) > 8192
    case pos =>
      have HF := hidep (HRR.out.trans (by rw [decide_eq_false (by omega : ¬ m ≤ 8192), Bool.false_and, Bool.and_false, Bool.and_false, Bool.and_false]))
      go_enter Tryz.func21, Tryz.ntmps21
      go_wp2_with (first
        | (go_at_call 33; refine (HVR.out _ (HB0.out _)).mono ?_; rintro e w1 ⟨rfl, hb1⟩)
        | (go_at_call 54; refine (HGD.out _ ((HB0.out _).trans (hb1.mono (HB0.out _).size))).mono ?_; rintro e w2 ⟨rfl, rfl⟩))
      go_ret
      exact ⟨ret_val (congrArg Value.bool HF.out.symm), (HB0.out _).trans (hb1.mono (HB0.out _).size)⟩
    have HF := hidep (HRR.out.trans (by rw [decide_eq_true HE0.out, decide_eq_true (by omega : n ≤ 2048), decide_eq_true (by omega : m ≤ 8192)]; simp : _ = z))
    have HI2 := hidep (HIS.out HE0.out (HLG.out rfl))
    clear HIS HLG HRR
    go_enter Tryz.func21, Tryz.ntmps21
    go_upto_region 3 with (first
      | (go_at_call 33; refine (HVR.out _ (HB0.out _)).mono ?_; rintro e w1 ⟨rfl, hb1⟩)
      | (go_at_call 54; refine (HGD.out _ ((HB0.out _).trans (hb1.mono (HB0.out _).size))).mono ?_; rintro e w2 ⟨rfl, rfl⟩))
    have hb01 := (HB0.out (.cells #[V.a, V.b, V.d, V.c, V.n, V.e, V.s] 29)).trans (hb1.mono (HB0.out _).size)
    have hq := below_push hb1 (heap_alloc_new w (.cells #[V.a, V.b, V.d, V.c, V.n, V.e, V.s] 29))
    obtain ⟨q0, q1, q2, q3, q4, q5, q6⟩ := tab7 (w0 := w) (V := V) ⟨hb01, hq⟩
    have HB01 := hidep hb01
    clear hb01 hq hb1
    go_wp2_with (go_at_call 55; refine (HI2.out _ HB01.out).mono ?_; rintro e w3 ⟨rfl, hb3⟩)
    go_ret
    exact ⟨ret_val (congrArg Value.bool HF.out.symm), HB01.out.trans (hb3.mono HB01.out.size)⟩
end Go.Proofs.YtcfjepcflanjbaaGreat
