/- The reference's begins, is and Is: the plain recursion isF. -/
import Derived.Test.YtcfjepcflanjbaaGreatBr02
import Derived.Test.YtcfjepcflanjbaaGreatBr19
import Derived.Test.YtcfjepcflanjbaaGreatBr07
import Derived.WideKeyArr
import Derived.DeepKeys3
namespace Go.Proofs.YtcfjepcflanjbaaGreat
open Go.RowKit Go.Lab Go.Shelf
set_option maxRecDepth 100000
set_option maxHeartbeats 400000 in
theorem sameBy_any (v u : Value) (a b : List Int) (w : World) (hv : BysAt w v a) (hu : BysAt w u b) :
    Calls Tryz.prog 125 #[v, u] w fun e w' => e = .returned (.bool (decide (a = b))) /\ Below w.heap.size w w' := by
  obtain ⟨va, vc, rfl, hvc, hvm⟩ := hv.1.form
  obtain ⟨ua, uc, rfl, huc, hum⟩ := hu.1.form
  unfold maxLen at hvm hum
  by_cases hl : a.length = b.length
  · have HV := hidep (fun W (hW : Below w.heap.size w W) => hv.below hW)
    have HU := hidep (fun W (hW : Below w.heap.size w W) => hu.below hW)
    have HL := hidep hl
    obtain ⟨n, hn⟩ : ∃ n, n = a.length := ⟨_, rfl⟩
    have HN := hidep hn
    have hm : b.length = n := by omega
    rw [hm, <- hn]
    clear hv hu hl
    rw [hm] at huc
    rw [<- hn] at hvc
    clear hn hm
    go_enter Tryz.func125, Tryz.ntmps125
    go_wp2
    go_loopw [5] (fun i wr => ∃ k : Nat, k <= n /\ i = .int .i64 k /\ Hid (a.take k = b.take k) /\ Below w.heap.size w wr) (fun i _ => n - (intOf i).toNat)
    case atStart => exact ⟨0, Nat.zero_le _, rfl, hidep rfl, Below.refl _ _⟩
    case round =>
      obtain ⟨k, hk, rfl, hg, hbw⟩ := hrel
      by_cases hlt : k < n
      · have hka : k < a.length := by rw [<- HN.out]; exact hlt
        have hkb : k < b.length := by rw [<- HL.out]; exact hka
        have h1 := HV.out _ hbw
        have h2 := HU.out _ hbw
        obtain ⟨b1, o1, x, hx, rfl, hb1, hc1, _, _⟩ := h1.get hka
        obtain ⟨b2, o2, y, hy, rfl, hb2, hc2, _, _⟩ := h2.get hkb
        have HT := hidep (take_succ_eq hka hkb hg.out)
        have hk1 : (k : Int) < (n : Int) := by omega
        have hk0 : (0 : Int) <= (k : Int) := by omega
        rw [hx, hy] at HT
        have HXY := hidep (show a = b -> x = y from by intro e; rw [<- hx, <- hy]; simp [e])
        clear hx hy h1 h2 hka hkb
        by_cases hxy : x = y
        · have hne : (x != y) = false := by simp [hxy]
          have HD := hidep (HT.out.2 hxy)
          clear hxy
          go_upto_region 6 with (fail)
          go_quiet (fail)
          go_wp2
          go_roundw
          case rel => exact ⟨k + 1, by omega, by go_num, HD, hbw.trans ((zq6 (Below.refl _ _) _).mono hbw.size)⟩
          case measure => simp [intOf]; omega
        · have hne : (x != y) = true := by simp [hxy]
          have HD := hidep (show decide (a = b) = false from decide_eq_false (fun e => hxy (HXY.out e)))
          clear hxy
          go_upto_region 6 with (fail)
          go_quiet (fail)
          go_wp2
          go_ret
          exact ⟨zqb (congrArg Value.bool HD.out.symm), hbw.trans ((zq6 (Below.refl _ _) _).mono hbw.size)⟩
      · go_wp2
        go_ret
        have hkn : k = n := by omega
        have e1 := hg.out
        rw [List.take_of_length_le (by rw [hkn, HN.out]; omega), List.take_of_length_le (by rw [hkn, HN.out, HL.out]; omega)] at e1
        exact ⟨zqb (congrArg Value.bool (decide_eq_true e1).symm), hbw⟩
  · have HD := hidep (show decide (a = b) = false from decide_eq_false (fun e => hl (by rw [e])))
    have hne : ((a.length : Int) != (b.length : Int)) = true := by simp; omega
    have hne2 : ¬ (a.length : Int) = (b.length : Int) := by omega
    clear hv hu hl
    go_enter Tryz.func125, Tryz.ntmps125
    go_wp2
    go_ret
    exact ⟨zqb (congrArg Value.bool HD.out.symm), Below.refl _ _⟩
set_option maxHeartbeats 400000 in
theorem beginsR_any (v u : Value) (C c : List Int) (k : Nat) (w : World) (hv : BysAt w v C) (hu : BysAt w u c) (hk : k <= C.length) (hC : C.length <= 1000000) (hc : c.length <= 1000000) :
    Calls Tryz.prog 95 #[v, .int .i64 (k : Nat), u] w fun e w' => e = .returned (.bool (begB (C.drop k) c)) /\ Below w.heap.size w w' := by
  obtain ⟨va, vc, rfl, hvc, hvm⟩ := hv.1.form
  obtain ⟨ua, uc, rfl, huc, hum⟩ := hu.1.form
  unfold maxLen at hvm hum
  have hwk : IntKind.i64.wrap ((k : Int) + (c.length : Int)) = (k : Int) + (c.length : Int) := IntWalk.i64_in _ (by omega)
  by_cases hl : k + c.length <= C.length
  · have hp := Rd.part hv.1 (l := k) (hh := k + c.length) (m := vc) (by omega) hl (by omega) (Nat.le_refl _)
    have hlen : ((C.drop k).take c.length).length = c.length := by rw [List.length_take, List.length_drop]; omega
    have hp2 : BysAt w (.slice (if vc = k then va else va.map (·.add k)) c.length (vc - k)) ((C.drop k).take c.length) := ⟨by
      rw [hlen]
      simp only [Nat.mul_one, Nat.add_sub_cancel_left, byC_drop, zqcc] at hp
      exact hp, fun x hx => hv.2 x (List.mem_of_mem_drop (List.mem_of_mem_take hx))⟩
    have HE := hidep (fun vv (hvv : Value.slice (if vc = k then va else va.map (·.add k)) c.length (vc - k) = vv) => hvv ▸ sameBy_any _ _ _ _ w hp2 hu)
    have HB := hidep (show begB (C.drop k) c = decide ((C.drop k).take c.length = c) from rfl)
    have hl1 : (k : Int) + (c.length : Int) <= (C.length : Int) := by omega
    have hl2 : (C.length : Int) <= (vc : Int) := by omega
    have hmin : min ((k : Int) + (c.length : Int)) (C.length : Int) = (k : Int) + (c.length : Int) := by omega
    clear hv hu hp hp2 hlen
    generalize c.length = n at *
    generalize C.length = m at *
    go_enter Tryz.func95, Tryz.ntmps95
    by_cases hvk : vc = k
    · have HVK := hidep hvk
      go_wp2_with (go_at_call 125; refine (HE.out _ (by simp [HVK.out])).mono ?_; rintro e w1 ⟨rfl, hb1⟩)
      go_ret
      exact ⟨zqb (congrArg Value.bool HB.out.symm), hb1⟩
    · go_wp2_with (go_at_call 125; refine (HE.out _ (by simp [hvk])).mono ?_; rintro e w1 ⟨rfl, hb1⟩)
      go_ret
      exact ⟨zqb (congrArg Value.bool HB.out.symm), hb1⟩
  · have HB := hidep (show begB (C.drop k) c = false from decide_eq_false (fun e => hl (by have := congrArg List.length e; rw [List.length_take, List.length_drop] at this; omega)))
    have hl1 : ¬ (k : Int) + (c.length : Int) <= (C.length : Int) := by omega
    clear hv hu hl
    go_enter Tryz.func95, Tryz.ntmps95
    go_wp2
    go_ret
    exact ⟨zqb (congrArg Value.bool HB.out.symm), Below.refl _ _⟩
def StepsIn (w : World) (v : Value) (l : List StpZ) : Prop :=
  ∃ us : List Value, us.length = l.length /\ Rd w (fun _ => True) 6 v l.length (zq42 l us) /\ ∀ i (h : i < l.length) (h' : i < us.length), BysAt w us[i] l[i].cells
theorem StepsIn.below {w w' : World} {v : Value} {l : List StpZ} (h : StepsIn w v l) (hb : Below w.heap.size w w') : StepsIn w' v l := by
  obtain ⟨us, h1, h2, h3⟩ := h
  exact ⟨us, h1, h2.below hb, fun i a b => (h3 i a b).below hb⟩
theorem StepsOwn.into {ty : TypeId} {base : Nat} {w : World} {v : Value} {l : List StpZ} (h : StepsOwn ty base w v l) : StepsIn w v l := by
  obtain ⟨us, h1, h2, h3⟩ := h
  exact ⟨us, h1, (Rd.of_own h2).mono (fun _ _ => trivial), h3⟩
theorem StepsIn.form {w : World} {v : Value} {l : List StpZ} (h : StepsIn w v l) : ∃ a cap, v = .slice a l.length cap /\ l.length <= cap /\ cap <= maxLen := by
  obtain ⟨us, _, hr, _⟩ := h
  exact hr.form
theorem stepsC_get : ∀ (l : List StpZ) (us : List Value) (i j : Nat) (h : i < l.length) (h' : i < us.length), j < 6 -> (zq42 l us)[i * 6 + j]? = (stepC l[i] us[i])[j]?
  | [], _, _, _, h, _, _ => by simp at h
  | _ :: _, [], _, _, _, h, _ => by simp at h
  | a :: l, b :: us, 0, j, _, _, hj => by
    rw [zq42, Nat.zero_mul, Nat.zero_add, List.getElem?_append_left (by simp [stepC]; omega)]
    rfl
  | a :: l, b :: us, i + 1, j, h, h', hj => by
    have := stepsC_get l us i j (by simpa using h) (by simpa using h') hj
    rw [zq42, List.getElem?_append_right (by simp [stepC]; omega)]
    simp only [stepC, List.length_cons, List.length_nil, List.getElem_cons_succ]
    rw [show (i + 1) * 6 + j - (0 + 1 + 1 + 1 + 1 + 1 + 1) = i * 6 + j from by omega]
    exact this
theorem StepsIn.get {w : World} {a : Option Addr} {c : Nat} {l : List StpZ} (h : StepsIn w (.slice a l.length c) l) {k : Nat} (hk : k < l.length) :
    ∃ b off s ua uc, l[k] = s /\ a = some ⟨b, off, none⟩ /\ b < w.heap.size /\ w.cell? ⟨b, off + k * 6, none⟩ = some (.int .i64 s.st.lang) /\ w.cell? ⟨b, off + k * 6 + 1, none⟩ = some (.bool s.st.num) /\ w.cell? ⟨b, off + k * 6 + 2, none⟩ = some (.bool s.st.word) /\ w.cell? ⟨b, off + k * 6 + 3, none⟩ = some (.int .i64 (s.n : Nat)) /\ w.cell? ⟨b, off + k * 6 + 4, none⟩ = some (.slice ua s.cells.length uc) /\ w.cell? ⟨b, off + k * 6 + 5, none⟩ = some (.int .i64 s.rule) /\ BysAt w (.slice ua s.cells.length uc) s.cells := by
  obtain ⟨us, hl, hr, hs⟩ := h
  obtain ⟨b, off, e, hb, hc⟩ := Rd.at hr (by omega)
  have hk' : k < us.length := by omega
  have hu := hs k hk hk'
  obtain ⟨ua, uc, hu2, _, _⟩ := hu.1.form
  have hg : ∀ j, j < 6 -> ∀ x, (stepC l[k] us[k])[j]? = some x -> w.cell? ⟨b, off + k * 6 + j, none⟩ = some x := fun j hj x hx => by
    rw [Nat.add_assoc]
    apply hc
    rw [stepsC_get l us k j hk hk' hj]
    exact hx
  exact ⟨b, off, l[k], ua, uc, rfl, e, hb, hg 0 (by omega) _ rfl, hg 1 (by omega) _ rfl, hg 2 (by omega) _ rfl, hg 3 (by omega) _ rfl, hg 4 (by omega) _ (congrArg some hu2), hg 5 (by omega) _ rfl, by rw [<- hu2]; exact hu⟩
theorem BysAt.drop {w : World} {a : Option Addr} {c m : Nat} {C : List Int} (h : BysAt w (.slice a C.length c) C) (hm : m <= C.length) :
    BysAt w (.slice (if c = m then a else a.map (·.add m)) (C.length - m) (c - m)) (C.drop m) := by
  obtain ⟨a', c', e, h1, _⟩ := h.1.form
  injection e with e1 e2 e3
  subst e1 e3
  have hp := Rd.part h.1 (l := m) (hh := C.length) (m := c) hm (Nat.le_refl _) h1 (Nat.le_refl _)
  simp only [Nat.mul_one, byC_drop, zqcc] at hp
  refine ⟨?_, fun x hx => h.2 x (List.mem_of_mem_drop hx)⟩
  rw [List.length_drop]
  rw [List.take_of_length_le (by rw [List.length_drop]; exact Nat.le_refl _)] at hp
  exact hp
/-! ### plain -/
def isF (T : TabZ) (l : List Sym) : Nat -> StZ -> Nat -> List Int -> Bool
  | 0, _, _, _ => false
  | f + 1, st, i, C => if l.length <= i then decide (C.length = 0) else (nextZ T st l i).any fun s => begB C s.cells && isF T l f s.st (i + s.n) (C.drop s.cells.length)
def isM (l : List Sym) (st : StZ) (i : Nat) : Nat := 2 * (l.length - i) + (if st.lang = (symAt l i).lang then 0 else 1)
theorem fitsB_len {r : RuleZ} {l : List Sym} {i : Nat} (h : fitsB r l i = true) : i + r.text.size <= l.length := by
  unfold fitsB at h
  simp only [Bool.and_eq_true, decide_eq_true_eq] at h
  exact h.1
theorem ruleSteps_mem {lang : Int} {wd : Bool} {lead : List Int} {l : List Sym} {i : Nat} : ∀ {rs : List RuleZ} {k : Nat} {s : StpZ}, s ∈ zq20 lang wd lead l i rs k -> ∃ r ∈ rs, fitsB r l i = true /\ s.st = ⟨lang, false, wd⟩ /\ s.n = r.text.size /\ s.cells = lead ++ r.cells
  | [], _, _, h => by cases h
  | r :: rs, k, s, h => by
    unfold zq20 at h
    rcases List.mem_append.1 h with h | h
    · by_cases hf : fitsB r l i = true
      · rw [if_pos hf] at h
        simp at h
        subst h
        exact ⟨r, by simp, hf, rfl, rfl, rfl⟩
      · rw [if_neg hf] at h; cases h
    · obtain ⟨r', h1, h2⟩ := ruleSteps_mem h
      exact ⟨r', by simp [h1], h2⟩
theorem zqd1 {T : TabZ} {lang : Int} (h : lang = 0 \/ lang = 1) : ∃ k, k < 2 /\ T.rules lang = T.at k := by
  rcases h with rfl | rfl
  · exact ⟨0, by omega, rfl⟩
  · exact ⟨1, by omega, rfl⟩
theorem zq54 {T : TabZ} (hv : zq8 T = 0) : T.dg.length = 10 /\ (1 <= T.nm.length /\ T.nm.length <= 4) /\ (1 <= T.en.length /\ T.en.length <= 4) /\ (1 <= T.cp.length /\ T.cp.length <= 4) /\ (1 <= T.sw.length /\ T.sw.length <= 4) := by
  unfold zq8 at hv
  split at hv
  · cases hv
  · split at hv
    · cases hv
    · rename_i h2
      simp only [Bool.not_eq_false, Bool.and_eq_true] at h2
      unfold zqc at h2
      simp only [Bool.and_eq_true, decide_eq_true_eq] at h2
      omega
theorem zq8e {T : TabZ} {st : StZ} {l : List Sym} {i : Nat} (hv : zq8 T = 0) (hi : i < l.length) (hlang : ∀ x ∈ l, x.lang = 0 \/ x.lang = 1) {s : StpZ} (hs : s ∈ nextZ T st l i) :
    isM l s.st (i + s.n) < isM l st i /\ (s.st.lang = 0 \/ s.st.lang = 1) /\ i + s.n <= l.length /\ s.n <= 8 /\ s.cells.length <= 12 := by
  have hvi := zq54 hv
  have hx := hlang _ (List.getElem_mem hi)
  rw [<- zq37 hi] at hx
  unfold nextZ at hs
  split at hs
  · rename_i hne
    simp at hs
    subst hs
    refine ⟨?_, hx, by simpa using Nat.le_of_lt hi, by simp, by simp; omega⟩
    unfold isM
    simp only [Nat.add_zero, if_true]
    rw [if_neg (fun e => hne e.symm)]
    omega
  · split at hs
    · simp at hs
      subst hs
      refine ⟨?_, hx, hi, by simp, by simp only [List.length_append, List.length_singleton]; split <;> simp <;> omega⟩
      unfold isM
      simp only
      split <;> split <;> omega
    · obtain ⟨r, hr, hf, h1, h2, h3⟩ := ruleSteps_mem hs
      obtain ⟨k, hk, hk2⟩ := zqd1 (T := T) hx
      rw [hk2] at hr
      have hsz := zq6d hv hk r hr
      have hl := fitsB_len hf
      rw [h1, h2, h3]
      refine ⟨?_, hx, hl, hsz.2.1, by unfold leadZ; simp only [List.length_append]; split <;> split <;> (try simp only [List.length_nil]) <;> omega⟩
      unfold isM
      split <;> split <;> omega
theorem zqa7 {T : TabZ} {l : List Sym} (hv : zq8 T = 0) (hlang : ∀ x ∈ l, x.lang = 0 \/ x.lang = 1) : ∀ (f f' : Nat) (st : StZ) (i : Nat) (C : List Int), isM l st i < f -> isM l st i < f' -> isF T l f st i C = isF T l f' st i C
  | 0, _, _, _, _, h, _ => by omega
  | _ + 1, 0, _, _, _, _, h => by omega
  | f + 1, f' + 1, st, i, C, h, h' => by
    unfold isF
    by_cases hi : l.length <= i
    · rw [if_pos hi, if_pos hi]
    · rw [if_neg hi, if_neg hi]
      rw [Bool.eq_iff_iff]
      simp only [List.any_eq_true, Bool.and_eq_true]
      constructor
      · rintro ⟨s, hs, h1, h2⟩
        have hm := zq8e hv (by omega) hlang hs
        exact ⟨s, hs, h1, by rw [<- zqa7 hv hlang f f' s.st (i + s.n) _ (by omega) (by omega)]; exact h2⟩
      · rintro ⟨s, hs, h1, h2⟩
        have hm := zq8e hv (by omega) hlang hs
        exact ⟨s, hs, h1, by rw [zqa7 hv hlang f f' s.st (i + s.n) _ (by omega) (by omega)]; exact h2⟩
def isZ (T : TabZ) (l : List Sym) (C : List Int) : Bool := isF T l (2 * l.length + 2) ⟨0, false, false⟩ 0 C
theorem zqd7 (l : List Sym) (st : StZ) (i : Nat) : isM l st i <= 2 * l.length + 1 := by
  unfold isM
  split <;> omega
theorem any_take_succ {α : Type} (p : α -> Bool) (l : List α) (k : Nat) (h : k < l.length) : (l.take (k + 1)).any p = ((l.take k).any p || p l[k]) := by
  rw [List.take_succ_eq_append_getElem h, List.any_append]
  simp
def IsX (w0 : World) (V : TabV) (st : StZ) (Bt : Nat) (X : World) : Prop := TbX w0 V Bt X /\ X.heap[Bt + 1]? = some (.cells #[.int .i64 st.lang, .bool st.num, .bool st.word] 66)
theorem IsX.below {w0 X X' : World} {V : TabV} {st : StZ} {Bt : Nat} (h : IsX w0 V st Bt X) (hb : Below X.heap.size X X') : IsX w0 V st Bt X' := ⟨h.1.below hb, zq0 hb h.2⟩
theorem tab7 {w0 : World} {V : TabV} {Bt : Nat} {Y : World} (h : TbX w0 V Bt Y) : Y.cell? ⟨Bt, 0, none⟩ = some V.a /\ Y.cell? ⟨Bt, 1, none⟩ = some V.b /\ Y.cell? ⟨Bt, 2, none⟩ = some V.d /\ Y.cell? ⟨Bt, 3, none⟩ = some V.c /\ Y.cell? ⟨Bt, 4, none⟩ = some V.n /\ Y.cell? ⟨Bt, 5, none⟩ = some V.e /\ Y.cell? ⟨Bt, 6, none⟩ = some V.s := by
  have h2 := h.2
  refine ⟨?_, ?_, ?_, ?_, ?_, ?_, ?_⟩ <;> simp [World.cell?, h2]
theorem good_lang {x : Sym} (h : goodB x = true) : x.lang = 0 \/ x.lang = 1 := by
  unfold goodB at h
  simp only [Bool.and_eq_true, decide_eq_true_eq] at h
  omega
end Go.Proofs.YtcfjepcflanjbaaGreat
/- Keys of maps: spots (places of a text, of cells, states) and places of reading. Plain moves. -/
namespace Go.Proofs.YtcfjepcflanjbaaGreat
open Go.RowKit Go.Lab Go.WideMaps Go.Maps
set_option maxRecDepth 100000
structure PlZ where
  st : StZ
  need : Nat
  sw : Bool
  deriving DecidableEq
def stC (s : StZ) : List Value := [.int .i64 s.lang, .bool s.num, .bool s.word]
def spotV (x : Nat × Nat × StZ) : Value := .agg (.int .i64 (x.1 : Nat) :: .int .i64 (x.2.1 : Nat) :: stC x.2.2).toArray
def zq2e (k : Nat) (p : PlZ) : List Value := [.int .i64 (k : Nat), .int .i64 p.st.lang, .bool p.st.num, .bool p.st.word, .int .i64 (p.need : Nat), .bool p.sw]
def zq4f (x : Nat × PlZ) : Value := .agg (zq2e x.1 x.2).toArray
def zq80 (x : Nat × Nat × StZ) : Prop := x.1 <= 1000000 /\ x.2.1 <= 1000000 /\ (x.2.2.lang = 0 \/ x.2.2.lang = 1)
def zq34 (x : Nat × PlZ) : Prop := x.1 <= 1000000 /\ x.2.need <= 2 /\ (x.2.st.lang = 0 \/ x.2.st.lang = 1)
def stL (s : StZ) : List Lit := [.int .i64 s.lang, .bool s.num, .bool s.word]
def spotL (x : Nat × Nat × StZ) : Lit := .string (keyBytes (.int .i64 (x.1 : Nat) :: .int .i64 (x.2.1 : Nat) :: stL x.2.2))
def zq4d (x : Nat × PlZ) : Lit := .string (keyBytes [.int .i64 (x.1 : Nat), .int .i64 x.2.st.lang, .bool x.2.st.num, .bool x.2.st.word, .int .i64 (x.2.need : Nat), .bool x.2.sw])
theorem spotWide : (match Tryz.prog.underlying 97 with | some (.array _ _) | some (.struct _) => true | _ => false) = true := by kernel_rfl
theorem keyedS : Maps.Keyed Tryz.prog 97 := Maps.Keyed.of_law (deep_law (m := 3) (by omega) (by kernel_rfl) (by kernel_rfl) spotWide)
theorem placeWide : (match Tryz.prog.underlying 133 with | some (.array _ _) | some (.struct _) => true | _ => false) = true := by kernel_rfl
theorem keyedP : Maps.Keyed Tryz.prog 133 := Maps.Keyed.of_law (deep_law (m := 3) (by omega) (by kernel_rfl) (by kernel_rfl) placeWide)
theorem wf64 {x : Int} (h1 : -9223372036854775808 <= x) (h2 : x <= 9223372036854775807) : (Lit.int .i64 x).wf = true := by simp [Lit.wf, IntKind.min, IntKind.max, IntKind.signed, IntKind.bits]; omega
theorem zq94 {m : Nat} {x : Int} (h1 : -9223372036854775808 <= x) (h2 : x <= 9223372036854775807) : Tryz.prog.keyLits (m + 1) 3 [.int .i64 x] = some [.int .i64 x] := by
  unfold Program.keyLits
  rw [Tryz.underlying3]
  simp [wf64 h1 h2]
theorem lits_bool {m : Nat} {x : Bool} : Tryz.prog.keyLits (m + 1) 4 [.bool x] = some [.bool x] := by
  unfold Program.keyLits
  rw [Tryz.underlying4]
theorem types_succ : ∃ m, Tryz.prog.types.size = m + 3 := ⟨Tryz.prog.types.size - 3, by have h0 : 3 <= Tryz.prog.types.size := of_decide_eq_true (by kernel_rfl); omega⟩
theorem lits_state {m : Nat} {s : StZ} (h : s.lang = 0 \/ s.lang = 1) : Tryz.prog.keyLits (m + 2) 95 (stC s) = some (stL s) := by
  have hc : Tryz.prog.cellsOf 95 = 3 := by kernel_rfl
  have hci : Tryz.prog.cellsOf 3 = 1 := by kernel_rfl
  have hcb : Tryz.prog.cellsOf 4 = 1 := by kernel_rfl
  unfold Program.keyLits
  rw [Tryz.underlying95]
  simp only [hc, stC]
  rw [if_pos ⟨by rfl, by kernel_rfl⟩]
  simp [hci, hcb, zq94 (by omega : -9223372036854775808 <= s.lang) (by omega), lits_bool, stL]
theorem spot_key (x : Nat × Nat × StZ) (h : zq80 x) : keyOf Tryz.prog 97 (spotV x) = some (spotL x) := by
  have hk : Tryz.prog.keyType 97 = true := by kernel_rfl
  have hc : Tryz.prog.cellsOf 97 = 5 := by kernel_rfl
  have hci : Tryz.prog.cellsOf 3 = 1 := by kernel_rfl
  have hcs : Tryz.prog.cellsOf 95 = 3 := by kernel_rfl
  have hf : (spotV x).formed Tryz.prog 97 = true := by
    unfold spotV Value.formed
    rw [Tryz.underlying97]
    simp [hc, stC]
  obtain ⟨m, hm⟩ := types_succ
  have h1 : (-9223372036854775808 : Int) <= (x.1 : Int) /\ (x.1 : Int) <= 9223372036854775807 := by have := h.1; omega
  have h2 : (-9223372036854775808 : Int) <= (x.2.1 : Int) /\ (x.2.1 : Int) <= 9223372036854775807 := by have := h.2.1; omega
  have e3 : Tryz.prog.keyLits (m + 3) 95 (stC x.2.2) = some (stL x.2.2) := lits_state h.2.2
  unfold stC at e3
  have hl : Tryz.prog.keyLits (Tryz.prog.types.size + 1) 97 (.int .i64 (x.1 : Nat) :: .int .i64 (x.2.1 : Nat) :: stC x.2.2) = some (.int .i64 (x.1 : Nat) :: .int .i64 (x.2.1 : Nat) :: stL x.2.2) := by
    rw [hm]
    unfold Program.keyLits
    rw [Tryz.underlying97]
    simp only [hc]
    rw [if_pos ⟨by rfl, by kernel_rfl⟩]
    simp [hci, hcs, zq94 h1.1 h1.2, zq94 h2.1 h2.2, stC, e3]
  unfold keyOf
  rw [Tryz.underlying97]
  simp only [hk, hf, Bool.and_self, if_true]
  rw [show (spotV x).cells.toList = .int .i64 (x.1 : Nat) :: .int .i64 (x.2.1 : Nat) :: stC x.2.2 from rfl, hl]
  rfl
theorem place_key (x : Nat × PlZ) (h : zq34 x) : keyOf Tryz.prog 133 (zq4f x) = some (zq4d x) := by
  have hk : Tryz.prog.keyType 133 = true := by kernel_rfl
  have hc : Tryz.prog.cellsOf 133 = 6 := by kernel_rfl
  have hci : Tryz.prog.cellsOf 3 = 1 := by kernel_rfl
  have hcb : Tryz.prog.cellsOf 4 = 1 := by kernel_rfl
  have hcs : Tryz.prog.cellsOf 95 = 3 := by kernel_rfl
  have hf : (zq4f x).formed Tryz.prog 133 = true := by
    unfold zq4f zq2e Value.formed
    rw [Tryz.underlying133]
    simp [hc]
  obtain ⟨m, hm⟩ := types_succ
  have h1 : (-9223372036854775808 : Int) <= (x.1 : Int) /\ (x.1 : Int) <= 9223372036854775807 := by have := h.1; omega
  have h2 : (-9223372036854775808 : Int) <= (x.2.need : Int) /\ (x.2.need : Int) <= 9223372036854775807 := by have := h.2.1; omega
  have e3 : Tryz.prog.keyLits (m + 3) 95 (stC x.2.st) = some (stL x.2.st) := lits_state h.2.2
  unfold stC stL at e3
  have hl : Tryz.prog.keyLits (Tryz.prog.types.size + 1) 133 (zq2e x.1 x.2) = some [.int .i64 (x.1 : Nat), .int .i64 x.2.st.lang, .bool x.2.st.num, .bool x.2.st.word, .int .i64 (x.2.need : Nat), .bool x.2.sw] := by
    rw [hm]
    unfold Program.keyLits
    rw [Tryz.underlying133]
    simp only [hc, zq2e]
    rw [if_pos ⟨by rfl, by kernel_rfl⟩]
    simp [hci, hcs, hcb, zq94 h1.1 h1.2, zq94 h2.1 h2.2, lits_bool, e3]
  unfold keyOf
  rw [Tryz.underlying133]
  simp only [hk, hf, Bool.and_self, if_true]
  rw [show (zq4f x).cells.toList = zq2e x.1 x.2 from rfl, hl]
  rfl
theorem spot_inj (x y : Nat × Nat × StZ) (_ : zq80 x) (_ : zq80 y) (h : spotV x = spotV y) : x = y := by
  obtain ⟨a, b, ⟨l, n, i⟩⟩ := x
  obtain ⟨a', b', ⟨l', n', i'⟩⟩ := y
  simp [spotV, stC] at h
  obtain ⟨h1, h2, h3, h4, h5⟩ := h
  obtain rfl : a = a' := by omega
  obtain rfl : b = b' := by omega
  subst h3 h4 h5
  rfl
theorem place_inj (x y : Nat × PlZ) (_ : zq34 x) (_ : zq34 y) (h : zq4f x = zq4f y) : x = y := by
  obtain ⟨a, ⟨⟨l, n, i⟩, d, s⟩⟩ := x
  obtain ⟨a', ⟨⟨l', n', i'⟩, d', s'⟩⟩ := y
  simp [zq4f, zq2e] at h
  obtain ⟨h1, h2, h3, h4, h5, h6⟩ := h
  obtain rfl : a = a' := by omega
  obtain rfl : d = d' := by omega
  subst h2 h3 h4 h6
  rfl
theorem spotK : KeyK Tryz.prog 97 93 4 spotV spotL zq80 (.bool false) :=
  ⟨keyedS, spot_key, spot_inj, Tryz.underlying93, fun w => by kernel_rfl⟩
theorem zqdb : KeyK Tryz.prog 133 178 4 zq4f zq4d zq34 (.bool false) :=
  ⟨keyedP, place_key, place_inj, Tryz.underlying178, fun w => by kernel_rfl⟩
theorem zqc4 : KeyK Tryz.prog 133 155 42 zq4f zq4d zq34 (.slice none 0 0) :=
  ⟨keyedP, place_key, place_inj, Tryz.underlying155, fun w => by kernel_rfl⟩
end Go.Proofs.YtcfjepcflanjbaaGreat
