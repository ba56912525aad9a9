/- The reference's begins, is and Is: the plain recursion isF. -/
import Derived.Test.YtcfjepcflanjbaaBf16
namespace Go.Proofs.Ytcfjepcflanjbaa
open Go.RowKit Go.Lab Go.Shelf
set_option maxRecDepth 100000
/-- Steps as they read. -/
def StepsIn (w : World) (v : Value) (l : List StpZ) : Prop :=
  ∃ us : List Value, us.length = l.length ∧ Rd w (fun _ => True) 6 v l.length (stepsC l us) ∧ ∀ i (h : i < l.length) (h' : i < us.length), BysAt w us[i] l[i].cells
theorem StepsIn.below {w w' : World} {v : Value} {l : List StpZ} (h : StepsIn w v l) (hb : Below w.heap.size w w') : StepsIn w' v l := by
  obtain ⟨us, h1, h2, h3⟩ := h
  exact ⟨us, h1, h2.below hb, fun i a b => (h3 i a b).below hb⟩
theorem StepsOwn.into {ty : TypeId} {base : Nat} {w : World} {v : Value} {l : List StpZ} (h : StepsOwn ty base w v l) : StepsIn w v l := by
  obtain ⟨us, h1, h2, h3⟩ := h
  exact ⟨us, h1, (Rd.of_own h2).mono (fun _ _ => trivial), h3⟩
theorem StepsIn.form {w : World} {v : Value} {l : List StpZ} (h : StepsIn w v l) : ∃ a cap, v = .slice a l.length cap ∧ l.length ≤ cap ∧ cap ≤ maxLen := by
  obtain ⟨us, _, hr, _⟩ := h
  exact hr.form
theorem stepsC_get : ∀ (l : List StpZ) (us : List Value) (i j : Nat) (h : i < l.length) (h' : i < us.length), j < 6 → (stepsC l us)[i * 6 + j]? = (stepC l[i] us[i])[j]?
  | [], _, _, _, h, _, _ => by simp at h
  | _ :: _, [], _, _, _, h, _ => by simp at h
  | a :: l, b :: us, 0, j, _, _, hj => by
    rw [stepsC, Nat.zero_mul, Nat.zero_add, List.getElem?_append_left (by simp [stepC]; omega)]
    rfl
  | a :: l, b :: us, i + 1, j, h, h', hj => by
    have := stepsC_get l us i j (by simpa using h) (by simpa using h') hj
    rw [stepsC, List.getElem?_append_right (by simp [stepC]; omega)]
    simp only [stepC, List.length_cons, List.length_nil, List.getElem_cons_succ]
    rw [show (i + 1) * 6 + j - (0 + 1 + 1 + 1 + 1 + 1 + 1) = i * 6 + j from by omega]
    exact this
theorem StepsIn.get {w : World} {a : Option Addr} {c : Nat} {l : List StpZ} (h : StepsIn w (.slice a l.length c) l) {k : Nat} (hk : k < l.length) :
    ∃ b off s ua uc, l[k] = s ∧ a = some ⟨b, off, none⟩ ∧ b < w.heap.size ∧ w.cell? ⟨b, off + k * 6, none⟩ = some (.int .i64 s.st.lang) ∧ w.cell? ⟨b, off + k * 6 + 1, none⟩ = some (.bool s.st.num) ∧ w.cell? ⟨b, off + k * 6 + 2, none⟩ = some (.bool s.st.word) ∧ w.cell? ⟨b, off + k * 6 + 3, none⟩ = some (.int .i64 (s.n : Nat)) ∧ w.cell? ⟨b, off + k * 6 + 4, none⟩ = some (.slice ua s.cells.length uc) ∧ w.cell? ⟨b, off + k * 6 + 5, none⟩ = some (.int .i64 s.rule) ∧ BysAt w (.slice ua s.cells.length uc) s.cells := by
  obtain ⟨us, hl, hr, hs⟩ := h
  obtain ⟨b, off, e, hb, hc⟩ := Rd.at hr (by omega)
  have hk' : k < us.length := by omega
  have hu := hs k hk hk'
  obtain ⟨ua, uc, hu2, _, _⟩ := hu.1.form
  have hg : ∀ j, j < 6 → ∀ x, (stepC l[k] us[k])[j]? = some x → w.cell? ⟨b, off + k * 6 + j, none⟩ = some x := fun j hj x hx => by
    rw [Nat.add_assoc]
    apply hc
    rw [stepsC_get l us k j hk hk' hj]
    exact hx
  exact ⟨b, off, l[k], ua, uc, rfl, e, hb, hg 0 (by omega) _ rfl, hg 1 (by omega) _ rfl, hg 2 (by omega) _ rfl, hg 3 (by omega) _ rfl, hg 4 (by omega) _ (congrArg some hu2), hg 5 (by omega) _ rfl, by rw [← hu2]; exact hu⟩
theorem BysAt.drop {w : World} {a : Option Addr} {c m : Nat} {C : List Int} (h : BysAt w (.slice a C.length c) C) (hm : m ≤ C.length) :
    BysAt w (.slice (if c = m then a else a.map (·.add m)) (C.length - m) (c - m)) (C.drop m) := by
  obtain ⟨a', c', e, h1, _⟩ := h.1.form
  injection e with e1 e2 e3
  subst e1 e3
  have hp := Rd.part h.1 (l := m) (hh := C.length) (m := c) hm (Nat.le_refl _) h1 (Nat.le_refl _)
  simp only [Nat.mul_one, byC_drop, byC_take] at hp
  refine ⟨?_, fun x hx => h.2 x (List.mem_of_mem_drop hx)⟩
  rw [List.length_drop]
  rw [List.take_of_length_le (by rw [List.length_drop]; exact Nat.le_refl _)] at hp
  exact hp
/-! ### plain -/
def isF (T : TabZ) (l : List Sym) : Nat → StZ → Nat → List Int → Bool
  | 0, _, _, _ => false
  | f + 1, st, i, C => if l.length ≤ i then decide (C.length = 0) else (nextZ T st l i).any fun s => begB C s.cells && isF T l f s.st (i + s.n) (C.drop s.cells.length)
def isM (l : List Sym) (st : StZ) (i : Nat) : Nat := 2 * (l.length - i) + (if st.lang = (symAt l i).lang then 0 else 1)
theorem fitsB_len {r : RuleZ} {l : List Sym} {i : Nat} (h : fitsB r l i = true) : i + r.text.size ≤ l.length := by
  unfold fitsB at h
  simp only [Bool.and_eq_true, decide_eq_true_eq] at h
  exact h.1
theorem ruleSteps_mem {lang : Int} {wd : Bool} {lead : List Int} {l : List Sym} {i : Nat} : ∀ {rs : List RuleZ} {k : Nat} {s : StpZ}, s ∈ ruleSteps lang wd lead l i rs k → ∃ r ∈ rs, fitsB r l i = true ∧ s.st = ⟨lang, false, wd⟩ ∧ s.n = r.text.size ∧ s.cells = lead ++ r.cells
  | [], _, _, h => by cases h
  | r :: rs, k, s, h => by
    unfold ruleSteps at h
    rcases List.mem_append.1 h with h | h
    · by_cases hf : fitsB r l i = true
      · rw [if_pos hf] at h
        simp at h
        subst h
        exact ⟨r, by simp, hf, rfl, rfl, rfl⟩
      · rw [if_neg hf] at h; cases h
    · obtain ⟨r', h1, h2⟩ := ruleSteps_mem h
      exact ⟨r', by simp [h1], h2⟩
theorem rules_at {T : TabZ} {lang : Int} (h : lang = 0 ∨ lang = 1) : ∃ k, k < 2 ∧ T.rules lang = T.at k := by
  rcases h with rfl | rfl
  · exact ⟨0, by omega, rfl⟩
  · exact ⟨1, by omega, rfl⟩
theorem valid_inds {T : TabZ} (hv : validE T = 0) : T.dg.length = 10 ∧ (1 ≤ T.nm.length ∧ T.nm.length ≤ 4) ∧ (1 ≤ T.en.length ∧ T.en.length ≤ 4) ∧ (1 ≤ T.cp.length ∧ T.cp.length ≤ 4) ∧ (1 ≤ T.sw.length ∧ T.sw.length ≤ 4) := by
  unfold validE at hv
  split at hv
  · cases hv
  · split at hv
    · cases hv
    · rename_i h2
      simp only [Bool.not_eq_false, Bool.and_eq_true] at h2
      unfold cellsB at h2
      simp only [Bool.and_eq_true, decide_eq_true_eq] at h2
      omega
/-- A step goes on. -/
theorem next_mem {T : TabZ} {st : StZ} {l : List Sym} {i : Nat} (hv : validE T = 0) (hi : i < l.length) (hlang : ∀ x ∈ l, x.lang = 0 ∨ x.lang = 1) {s : StpZ} (hs : s ∈ nextZ T st l i) :
    isM l s.st (i + s.n) < isM l st i ∧ (s.st.lang = 0 ∨ s.st.lang = 1) ∧ i + s.n ≤ l.length ∧ s.n ≤ 8 ∧ s.cells.length ≤ 12 := by
  have hvi := valid_inds hv
  have hx := hlang _ (List.getElem_mem hi)
  rw [← symAt_get hi] at hx
  unfold nextZ at hs
  split at hs
  · rename_i hne
    simp at hs
    subst hs
    refine ⟨?_, hx, by simpa using Nat.le_of_lt hi, by simp, by simp; omega⟩
    unfold isM
    simp only [Nat.add_zero, if_true]
    rw [if_neg (fun e => hne e.symm)]
    omega
  · split at hs
    · simp at hs
      subst hs
      refine ⟨?_, hx, hi, by simp, by simp only [List.length_append, List.length_singleton]; split <;> simp <;> omega⟩
      unfold isM
      simp only
      split <;> split <;> omega
    · obtain ⟨r, hr, hf, h1, h2, h3⟩ := ruleSteps_mem hs
      obtain ⟨k, hk, hk2⟩ := rules_at (T := T) hx
      rw [hk2] at hr
      have hsz := valid_rule hv hk r hr
      have hl := fitsB_len hf
      rw [h1, h2, h3]
      refine ⟨?_, hx, hl, hsz.2.1, by unfold leadZ; simp only [List.length_append]; split <;> split <;> (try simp only [List.length_nil]) <;> omega⟩
      unfold isM
      split <;> split <;> omega
/-- The steps of a text that are left. -/
theorem isF_fuel {T : TabZ} {l : List Sym} (hv : validE T = 0) (hlang : ∀ x ∈ l, x.lang = 0 ∨ x.lang = 1) : ∀ (f f' : Nat) (st : StZ) (i : Nat) (C : List Int), isM l st i < f → isM l st i < f' → isF T l f st i C = isF T l f' st i C
  | 0, _, _, _, _, h, _ => by omega
  | _ + 1, 0, _, _, _, _, h => by omega
  | f + 1, f' + 1, st, i, C, h, h' => by
    unfold isF
    by_cases hi : l.length ≤ i
    · rw [if_pos hi, if_pos hi]
    · rw [if_neg hi, if_neg hi]
      rw [Bool.eq_iff_iff]
      simp only [List.any_eq_true, Bool.and_eq_true]
      constructor
      · rintro ⟨s, hs, h1, h2⟩
        have hm := next_mem hv (by omega) hlang hs
        exact ⟨s, hs, h1, by rw [← isF_fuel hv hlang f f' s.st (i + s.n) _ (by omega) (by omega)]; exact h2⟩
      · rintro ⟨s, hs, h1, h2⟩
        have hm := next_mem hv (by omega) hlang hs
        exact ⟨s, hs, h1, by rw [isF_fuel hv hlang f f' s.st (i + s.n) _ (by omega) (by omega)]; exact h2⟩
def isZ (T : TabZ) (l : List Sym) (C : List Int) : Bool := isF T l (2 * l.length + 2) ⟨0, false, false⟩ 0 C
theorem isM_le (l : List Sym) (st : StZ) (i : Nat) : isM l st i ≤ 2 * l.length + 1 := by
  unfold isM
  split <;> omega
theorem range_map59 (f : Nat → Value) : (List.range 59).map f = [f 0, f 1, f 2, f 3, f 4, f 5, f 6, f 7, f 8, f 9, f 10, f 11, f 12, f 13, f 14, f 15, f 16, f 17, f 18, f 19, f 20, f 21, f 22, f 23, f 24, f 25, f 26, f 27, f 28, f 29, f 30, f 31, f 32, f 33, f 34, f 35, f 36, f 37, f 38, f 39, f 40, f 41, f 42, f 43, f 44, f 45, f 46, f 47, f 48, f 49, f 50, f 51, f 52, f 53, f 54, f 55, f 56, f 57, f 58] := rfl
theorem frame59 (t : Array Value) (ds : List Deferred) (h : t.size = 59) : ({ tmps := t, defers := ds } : Act) = { tmps := #[slot t 0, slot t 1, slot t 2, slot t 3, slot t 4, slot t 5, slot t 6, slot t 7, slot t 8, slot t 9, slot t 10, slot t 11, slot t 12, slot t 13, slot t 14, slot t 15, slot t 16, slot t 17, slot t 18, slot t 19, slot t 20, slot t 21, slot t 22, slot t 23, slot t 24, slot t 25, slot t 26, slot t 27, slot t 28, slot t 29, slot t 30, slot t 31, slot t 32, slot t 33, slot t 34, slot t 35, slot t 36, slot t 37, slot t 38, slot t 39, slot t 40, slot t 41, slot t 42, slot t 43, slot t 44, slot t 45, slot t 46, slot t 47, slot t 48, slot t 49, slot t 50, slot t 51, slot t 52, slot t 53, slot t 54, slot t 55, slot t 56, slot t 57, slot t 58], defers := ds } := by
  have e : t = ((List.range 59).map (slot t)).toArray := by
    apply Array.ext
    · simp [h]
    · intro i h1 h2
      simp [slot, Array.getD, h1]
  rw [range_map59] at e
  exact congrArg (fun x => ({ tmps := x, defers := ds } : Act)) e
theorem any_take_succ {α : Type} (p : α → Bool) (l : List α) (k : Nat) (h : k < l.length) : (l.take (k + 1)).any p = ((l.take k).any p || p l[k]) := by
  rw [List.take_succ_eq_append_getElem h, List.any_append]
  simp
/-- The boxes of is. -/
def IsX (w0 : World) (V : TabV) (st : StZ) (Bt : Nat) (X : World) : Prop := TbX w0 V Bt X ∧ X.heap[Bt + 1]? = some (.cells #[.int .i64 st.lang, .bool st.num, .bool st.word] 59)
theorem IsX.below {w0 X X' : World} {V : TabV} {st : StZ} {Bt : Nat} (h : IsX w0 V st Bt X) (hb : Below X.heap.size X X') : IsX w0 V st Bt X' := ⟨h.1.below hb, below_push hb h.2⟩
theorem tab7 {w0 : World} {V : TabV} {Bt : Nat} {Y : World} (h : TbX w0 V Bt Y) : Y.cell? ⟨Bt, 0, none⟩ = some V.a ∧ Y.cell? ⟨Bt, 1, none⟩ = some V.b ∧ Y.cell? ⟨Bt, 2, none⟩ = some V.d ∧ Y.cell? ⟨Bt, 3, none⟩ = some V.c ∧ Y.cell? ⟨Bt, 4, none⟩ = some V.n ∧ Y.cell? ⟨Bt, 5, none⟩ = some V.e ∧ Y.cell? ⟨Bt, 6, none⟩ = some V.s := by
  have h2 := h.2
  refine ⟨?_, ?_, ?_, ?_, ?_, ?_, ?_⟩ <;> simp [World.cell?, h2]
theorem good_lang {x : Sym} (h : goodB x = true) : x.lang = 0 ∨ x.lang = 1 := by
  unfold goodB at h
  simp only [Bool.and_eq_true, decide_eq_true_eq] at h
  omega
end Go.Proofs.Ytcfjepcflanjbaa
