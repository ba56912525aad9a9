/- Contract: the maker of cells: a translation of a text that numbers choose. -/
import Derived.Test.YtcfjepcflanjbaaBf20
import Derived.Test.YtcfjepcflanjbaaBf21
import Derived.Test.YtcfjepcflanjbaaBf18
namespace Go.Proofs.Ytcfjepcflanjbaa
open Go.RowKit Go.Lab Go.Shelf
set_option maxRecDepth 100000
theorem isF_mono {T : TabZ} {l : List Sym} : ∀ (f : Nat) (st : StZ) (i : Nat) (C : List Int), isF T l f st i C = true → isF T l (f + 1) st i C = true
  | 0, _, _, _, h => by cases h
  | f + 1, st, i, C, h => by
    unfold isF at h ⊢
    split
    · rename_i hi
      rw [if_pos hi] at h
      exact h
    · rename_i hi
      rw [if_neg hi] at h
      obtain ⟨s, hs, h2⟩ := List.any_eq_true.1 h
      refine List.any_eq_true.2 ⟨s, hs, ?_⟩
      simp only [Bool.and_eq_true] at h2 ⊢
      exact ⟨h2.1, isF_mono f _ _ _ h2.2⟩
theorem isF_more {T : TabZ} {l : List Sym} {f : Nat} {st : StZ} {i : Nat} {C : List Int} (h : isF T l f st i C = true) : ∀ d, isF T l (f + d) st i C = true
  | 0 => h
  | d + 1 => isF_mono _ _ _ _ (isF_more h d)
theorem begB_self (c R : List Int) : begB (c ++ R) c = true := by
  unfold begB
  simp
/-- Cells that lead from the beginning to a place of the text. -/
def PreW (T : TabZ) (l : List Sym) (c : List Int) (st : StZ) (i : Nat) : Prop := ∀ R f, isF T l f st i R = true → ∃ f', isF T l f' ⟨0, false, false⟩ 0 (c ++ R) = true
theorem PreW.start (T : TabZ) (l : List Sym) : PreW T l [] ⟨0, false, false⟩ 0 := fun _ f h => ⟨f, h⟩
theorem PreW.step {T : TabZ} {l : List Sym} {c : List Int} {st : StZ} {i : Nat} (h : PreW T l c st i) (hi : i < l.length) {s : StpZ} (hs : s ∈ nextZ T st l i) : PreW T l (c ++ s.cells) s.st (i + s.n) := fun _ f hf => by
  rw [List.append_assoc]
  refine h _ (f + 1) ?_
  unfold isF
  rw [if_neg (by omega)]
  refine List.any_eq_true.2 ⟨s, hs, ?_⟩
  rw [begB_self, Bool.true_and, List.drop_left]
  exact hf
theorem PreW.done {T : TabZ} {l : List Sym} {c : List Int} {st : StZ} {i : Nat} (h : PreW T l c st i) (hv : validE T = 0) (hlang : ∀ x ∈ l, x.lang = 0 ∨ x.lang = 1) (hi : l.length ≤ i) : isZ T l c = true := by
  obtain ⟨f', hf⟩ := h [] 1 (by unfold isF; rw [if_pos hi]; rfl)
  rw [List.append_nil] at hf
  have h2 := isF_more hf (2 * l.length + 2)
  unfold isZ
  have hm := isM_le l ⟨0, false, false⟩ 0
  rw [isF_fuel hv hlang (2 * l.length + 2) (f' + (2 * l.length + 2)) _ _ _ (by omega) (by omega)]
  exact h2
theorem box6w {w : World} {b : Nat} {x0 x1 x2 x3 x4 x5 : Value} {t : TypeId} (h : w.heap[b]? = some (.cells #[x0, x1, x2, x3, x4, x5] t)) : w.cell? ⟨b, 0, none⟩ = some x0 ∧ w.cell? ⟨b, 1, none⟩ = some x1 ∧ w.cell? ⟨b, 2, none⟩ = some x2 ∧ w.cell? ⟨b, 3, none⟩ = some x3 ∧ w.cell? ⟨b, 4, none⟩ = some x4 ∧ w.cell? ⟨b, 5, none⟩ = some x5 := by
  refine ⟨?_, ?_, ?_, ?_, ?_, ?_⟩ <;> simp [World.cell?, h]
/-- What Written promises. -/
def WrP (T : TabZ) (l : List Sym) (n : Nat) (w : World) (e : Ending) (w' : World) : Prop := ∃ v c ok, e = .returned (.tuple #[v, .bool ok]) ∧ BysAt w' v c ∧ c.length ≤ 99999 ∧ (ok = true → isZ T l c = true) ∧ ((∀ st i, i < n → nextZ T st l i ≠ []) → ok = true) ∧ Below w.heap.size w w'
theorem wt_of {T : TabZ} {l : List Sym} : PreW T l [] ⟨0, false, false⟩ 0 := PreW.start T l
theorem set3s {W : World} {b : Nat} {u0 u1 u2 : Value} {t : TypeId} (h : W.heap[b]? = some (.cells #[u0, u1, u2] t)) (v0 v1 v2 : Value) : (((W.setCell ⟨b, 0, none⟩ v0).setCell ⟨b, 1, none⟩ v1).setCell ⟨b, 2, none⟩ v2).heap[b]? = some (.cells #[v0, v1, v2] t) := by
  have h0 := heap_set h 0 v0
  rw [show (#[u0, u1, u2] : Array Value).setIfInBounds 0 v0 = #[v0, u1, u2] from rfl] at h0
  have h1 := heap_set h0 1 v1
  rw [show (#[v0, u1, u2] : Array Value).setIfInBounds 1 v1 = #[v0, v1, u2] from rfl] at h1
  have h2 := heap_set h1 2 v2
  rw [show (#[v0, v1, u2] : Array Value).setIfInBounds 2 v2 = #[v0, v1, v2] from rfl] at h2
  exact h2
theorem set3s_turned (W : World) (b : Nat) (v0 v1 v2 : Value) : Turned (fun x => x = b) W (((W.setCell ⟨b, 0, none⟩ v0).setCell ⟨b, 1, none⟩ v1).setCell ⟨b, 2, none⟩ v2) :=
  (((Turned.refl (fun x => x = b) W).setCell ⟨b, 0, none⟩ v0 (.inr rfl)).setCell ⟨b, 1, none⟩ v1 (.inr rfl)).setCell ⟨b, 2, none⟩ v2 (.inr rfl)
/-- What Written holds. -/
structure WtS (w0 : World) (V : TabV) (T : TabZ) (l : List Sym) (Bt Sb i j : Nat) (st : StZ) (c : List Int) (v : Value) (W : World) : Prop where
  low : Below w0.heap.size w0 W
  slo : w0.heap.size ≤ Sb
  tab : W.heap[Bt]? = some (.cells #[V.a, V.b, V.d, V.c, V.n, V.e, V.s] 29)
  sbx : W.heap[Sb]? = some (.cells #[.int .i64 st.lang, .bool st.num, .bool st.word] 59)
  row : W.ownsRow w0.heap.size 5 1 v c.length (byC c)
  rng : ∀ x ∈ c, 0 ≤ x ∧ x < 256
  len : c.length ≤ 12 * j
  pre : PreW T l c st i
  lang : st.lang = 0 ∨ st.lang = 1
  mu : j + isM l st i ≤ 2 * l.length + 1
  le : i ≤ l.length
theorem WtS.below {w0 : World} {V : TabV} {T : TabZ} {l : List Sym} {Bt Sb i j : Nat} {st : StZ} {c : List Int} {v : Value} {W W' : World} (h : WtS w0 V T l Bt Sb i j st c v W) (hb : Below W.heap.size W W') : WtS w0 V T l Bt Sb i j st c v W' :=
  ⟨h.low.trans (hb.mono h.low.size), h.slo, below_push hb h.tab, below_push hb h.sbx, ownsRow_below h.row hb, h.rng, h.len, h.pre, h.lang, h.mu, h.le⟩
def VWt (w0 : World) (V : TabV) (T : TabZ) (l : List Sym) (Bt Sb : Nat) (iv jv v : Value) (wr : World) : Prop :=
  ∃ (i j : Nat) (st : StZ) (c : List Int), iv = .int .i64 (i : Nat) ∧ jv = .int .i64 (j : Nat) ∧ WtS w0 V T l Bt Sb i j st c v wr
theorem range_map47 (f : Nat → Value) : (List.range 47).map f = [f 0, f 1, f 2, f 3, f 4, f 5, f 6, f 7, f 8, f 9, f 10, f 11, f 12, f 13, f 14, f 15, f 16, f 17, f 18, f 19, f 20, f 21, f 22, f 23, f 24, f 25, f 26, f 27, f 28, f 29, f 30, f 31, f 32, f 33, f 34, f 35, f 36, f 37, f 38, f 39, f 40, f 41, f 42, f 43, f 44, f 45, f 46] := rfl
theorem frame47 (t : Array Value) (ds : List Deferred) (h : t.size = 47) : ({ tmps := t, defers := ds } : Act) = { tmps := #[slot t 0, slot t 1, slot t 2, slot t 3, slot t 4, slot t 5, slot t 6, slot t 7, slot t 8, slot t 9, slot t 10, slot t 11, slot t 12, slot t 13, slot t 14, slot t 15, slot t 16, slot t 17, slot t 18, slot t 19, slot t 20, slot t 21, slot t 22, slot t 23, slot t 24, slot t 25, slot t 26, slot t 27, slot t 28, slot t 29, slot t 30, slot t 31, slot t 32, slot t 33, slot t 34, slot t 35, slot t 36, slot t 37, slot t 38, slot t 39, slot t 40, slot t 41, slot t 42, slot t 43, slot t 44, slot t 45, slot t 46], defers := ds } := by
  have e : t = ((List.range 47).map (slot t)).toArray := by
    apply Array.ext
    · simp [h]
    · intro i h1 h2
      simp [slot, Array.getD, h1]
  rw [range_map47] at e
  exact congrArg (fun x => ({ tmps := x, defers := ds } : Act)) e
set_option maxHeartbeats 4000000 in
theorem writtenC_any (V : TabV) (T : TabZ) (lv chv : Value) (l : List Sym) (ch : List Int) (w : World) (hT : TabIn w V T) (hok : TabOk T) (hv : validE T = 0) (h : SymsAt w lv l) (hr : SymOk l) (hl : l.length ≤ 1000) (hlang : ∀ x ∈ l, x.lang = 0 ∨ x.lang = 1) (hch : IntsAt w chv ch) :
    Calls Try.prog 6 #[V.v, lv, chv] w fun e w' => WrP T l l.length w e w' := by
  obtain ⟨la, lc, rfl, hlc, hlm⟩ := h.form
  obtain ⟨ha, hc, rfl, hhc, hhm⟩ := hch.1.form
  unfold maxLen at hlm hhm
  have HT := hidep (And.intro hT (And.intro hok (And.intro hv (And.intro h (And.intro hr (And.intro hlang hch))))))
  obtain ⟨n, hn⟩ : ∃ n, n = l.length := ⟨_, rfl⟩
  have HN := hidep hn
  obtain ⟨hn2, hhn⟩ : ∃ n, n = ch.length := ⟨_, rfl⟩
  have HHN := hidep hhn
  rw [← hn] at hlc hl ⊢
  rw [← hhn] at hhc ⊢
  unfold TabV.v
  clear hT hok hv h hr hlang hch hn hhn
  go_enter Try.func6, Try.ntmps6
  go_upto_region 1 with (fail)
  obtain ⟨Bt, hBt⟩ : ∃ B, B = w.heap.size := ⟨_, rfl⟩
  refine wp_abs (fun X => Below w.heap.size w X ∧ X.heap[Bt]? = some (.cells #[V.a, V.b, V.d, V.c, V.n, V.e, V.s] 29)) ⟨(Below.refl _ _).alloc (Nat.le_refl _) _, by rw [hBt]; exact heap_alloc_new _ _⟩ ?_
  rintro X0 ⟨hb0, ht0⟩
  rw [← hBt]
  have HX0 := hidep (And.intro hb0 ht0)
  clear hBt hb0 ht0
  go_upto_region 3 with (fail)
  obtain ⟨Sb, hSb⟩ : ∃ B, B = X0.heap.size := ⟨_, rfl⟩
  refine wp_abs (fun X => WtS w V T l Bt Sb 0 0 ⟨0, false, false⟩ [] (.slice none 0 0) X) ⟨HX0.out.1.alloc HX0.out.1.size _, by rw [hSb]; exact HX0.out.1.size, below_push ((Below.refl _ _).alloc (Nat.le_refl _) _) HX0.out.2, by rw [hSb]; exact heap_alloc_new _ _, World.ownsRow_nil _ _ _ _, fun x hx => (by cases hx), Nat.zero_le _, PreW.start T l, .inl rfl, by have := isM_le l ⟨0, false, false⟩ 0; omega, Nat.zero_le _⟩ ?_
  intro X1 hW1
  rw [← hSb]
  have HW1 := hidep hW1
  clear hSb hW1
  go_upto_region 5 with (fail)
  refine wp_loop (LoopI 47 (fun tm ds wr => (slot tm 1) = .slice la n lc ∧ (slot tm 2) = .slice ha hn2 hc ∧ (slot tm 3) = .pointer (some ⟨Bt, 0, none⟩) ∧ (slot tm 9) = .pointer (some ⟨Sb, 0, none⟩) ∧ ds = [] ∧ VWt w V T l Bt Sb (slot tm 10) (slot tm 11) (slot tm 8) wr)) (fun a' wr => 2 * n + 2 - natI (a'.tmps.getD 11 undef)) ?olStart ?olRound
  case' olStart => refine LoopI.mk rfl ?_
  case' olRound => (rintro ⟨t, ds⟩ wr ⟨hts, hrel⟩; dsimp only at hts hrel; rw [frame47 t ds hts])
  case olStart => exact ⟨rfl, rfl, rfl, rfl, rfl, 0, 0, _, _, rfl, rfl, HW1.out⟩
  obtain ⟨e1, e2, e3, e9, hds, i, j, st, c, e10, e11, hW⟩ := hrel
  obtain ⟨v, hvv⟩ : ∃ v, v = slot t 8 := ⟨_, rfl⟩
  rw [← hvv] at hW
  subst hds
  rw [e1, e2, e3, e9, e10, e11, ← hvv]
  clear e1 e2 e3 e9 e10 e11 hts hvv HW1
  have HW := hidep hW
  have hi := hW.le
  have hjb := hW.mu
  rw [← HN.out] at hi hjb
  obtain ⟨va, vc, rfl, _, hvm⟩ := (Rd.of_own hW.row).form
  unfold maxLen at hvm
  by_cases hin : i < n
  · have hii : (i : Int) < (n : Int) := by omega
    have hwj : IntKind.i64.wrap ((j : Int) + 1) = (j : Int) + 1 := IntWalk.i64_in _ (by omega)
    have hil : i < l.length := by rw [← HN.out]; exact hin
    obtain ⟨q0, q1, q2, q3, q4, q5, q6⟩ : wr.cell? ⟨Bt, 0, none⟩ = some V.a ∧ wr.cell? ⟨Bt, 1, none⟩ = some V.b ∧ wr.cell? ⟨Bt, 2, none⟩ = some V.d ∧ wr.cell? ⟨Bt, 3, none⟩ = some V.c ∧ wr.cell? ⟨Bt, 4, none⟩ = some V.n ∧ wr.cell? ⟨Bt, 5, none⟩ = some V.e ∧ wr.cell? ⟨Bt, 6, none⟩ = some V.s := by
      have h := hW.tab
      refine ⟨?_, ?_, ?_, ?_, ?_, ?_, ?_⟩ <;> simp [World.cell?, h]
    obtain ⟨s0, s1, s2⟩ : wr.cell? ⟨Sb, 0, none⟩ = some (.int .i64 st.lang) ∧ wr.cell? ⟨Sb, 1, none⟩ = some (.bool st.num) ∧ wr.cell? ⟨Sb, 2, none⟩ = some (.bool st.word) := by
      have h := hW.sbx
      refine ⟨?_, ?_, ?_⟩ <;> simp [World.cell?, h]
    have HNX := hidep (nextR_any V T st (.slice la l.length lc) l i wr (HT.out.1.below hW.low) HT.out.2.1 HT.out.2.2.1 (HT.out.2.2.2.1.below hW.low) HT.out.2.2.2.2.1 (by rw [← HN.out]; omega) hil HT.out.2.2.2.2.2.1)
    rw [← HN.out] at HNX
    unfold TabV.v at HNX
    obtain ⟨N, hN⟩ : ∃ x, x = nextZ T st l i := ⟨_, rfl⟩
    rw [← hN] at HNX
    have HNN := hidep hN
    clear hW hN
    go_upto_region 8 with (go_at_call 19; refine HNX.out.mono ?_; rintro e w7 ⟨⟨v7, rfl, hs7⟩, hb7⟩; have hin7 := hs7.into; obtain ⟨a7, c7, rfl, h7c, h7m⟩ := hin7.form)
    unfold maxLen at h7m
    have HS7 := hidep (And.intro hin7 hb7)
    have HW7 := hidep (HW.out.below hb7)
    clear hs7 hin7 hb7 q0 q1 q2 q3 q4 q5 q6 s0 s1 s2 HNX
    by_cases hN0 : N.length = 0
    · have hle : ((N.length : Int) == 0) = true := by rw [hN0]; rfl
      have HNE := hidep (show (∀ st i, i < n → nextZ T st l i ≠ []) → False from fun h => h st i hin (by rw [← HNN.out]; exact List.eq_nil_of_length_eq_zero hN0))
      clear hN0
      go_wp2
      go_ret2
      exact ⟨_, [], false, rfl, ⟨Rd.nil _ _ _, fun x hx => (by cases hx)⟩, Nat.zero_le _, fun e => (by cases e), fun h => (HNE.out h).elim, HW7.out.low⟩
    · have hle : ((N.length : Int) == 0) = false := by rw [beq_eq_false_iff_ne]; omega
      have harr := atZ_rng ch (j : Int) (N.length : Int) (by omega)
      obtain ⟨p, hp⟩ : ∃ p : Nat, (p : Int) = atZ ch (j : Int) (N.length : Int) := ⟨(atZ ch (j : Int) (N.length : Int)).toNat, by omega⟩
      have HAT := hidep (fun (W : World) (hb : Below w.heap.size w W) => at_any (.slice ha ch.length hc) ch (j : Int) (N.length : Int) W (HT.out.2.2.2.2.2.2.below hb))
      rw [← hp, ← HHN.out] at HAT
      rw [← hp] at harr
      have hpl : p < N.length := by omega
      obtain ⟨b, off, s, ua, uc, hsN, rfl, hbb, k0, k1, k2, k3, k4, k5, hus⟩ := HS7.out.1.get hpl
      have hsm : s ∈ nextZ T st l i := by rw [← HNN.out, ← hsN]; exact List.getElem_mem hpl
      have hnm := next_mem HT.out.2.2.1 hil HT.out.2.2.2.2.2.1 hsm
      have hbs : ∀ x ∈ s.cells, 0 ≤ x ∧ x < 256 := hus.2
      have HSM := hidep (And.intro hsm (And.intro hnm hbs))
      have HUS := hidep hus
      have hpi : (p : Int) < (N.length : Int) := by omega
      have hp0 : (0 : Int) ≤ (p : Int) := by omega
      clear hp hsN hsm hnm hbs hus harr hN0
      obtain ⟨Nl, hNl⟩ : ∃ x, x = N.length := ⟨_, rfl⟩
      rw [← hNl] at hle HAT hpi h7c ⊢
      clear hNl hpl
      go_upto_region 11 with (go_at_call 20; refine (HAT.out _ HW7.out.low).mono ?_; rintro e w8 ⟨rfl, rfl⟩)
      obtain ⟨Qb, hQb⟩ : ∃ B, B = w7.heap.size := ⟨_, rfl⟩
      refine wp_abs (fun X => Below w7.heap.size w7 X ∧ X.heap[Qb]? = some (.cells #[.int .i64 s.st.lang, .bool s.st.num, .bool s.st.word, .int .i64 (s.n : Nat), .slice ua s.cells.length uc, .int .i64 s.rule] 63)) ⟨(Below.refl _ _).alloc (Nat.le_refl _) _, by rw [hQb]; exact heap_alloc_new _ _⟩ ?_
      rintro X8 ⟨hb8, hq8⟩
      rw [← hQb]
      have HW8 := hidep (HW7.out.below hb8)
      have HQ8 := hidep (And.intro hq8 (HUS.out.below hb8))
      obtain ⟨m0, m1, m2, m3, m4, m5⟩ := box6w hq8
      have hl12 := HSM.out.2.1.2.2.2.2
      have hn8 := HSM.out.2.1.2.2.2.1
      have hin8 := HSM.out.2.1.2.2.1
      have hcl := HW8.out.len
      have hjn : c.length ≤ 99999 := by omega
      have hw10 : w.heap.size ≤ X8.heap.size := HW8.out.low.size
      have hone : ∀ u ∈ byC s.cells, u.oneCell' = true := byC_one s.cells
      have hrd : Rd X8 (fun _ => True) 1 (.slice ua s.cells.length uc) s.cells.length (byC s.cells) := HQ8.out.2.1
      have hrow := HW8.out.row
      have HRR := hidep (And.intro hrd hrow)
      clear hQb hb8 hq8 hrd hrow k0 k1 k2 k3 k4 k5
      go_upto_region 12 with (at_builtin; go_loud (refine wpList_append_rd _ rfl _ _ rfl slByt w.heap.size (.slice va c.length vc) c.length (byC c) rfl HRR.out.2 (fun _ => True) (.slice ua s.cells.length uc) s.cells.length (byC s.cells) rfl HRR.out.1 hone (by unfold maxLen; omega) (by omega) hw10 ?_; intro v9 w9 ho9 hg9 hown9 hnl9; clear hnl9 hown9; have hkp := Keeps.grown (T := fun t => t ≠ 5) HRR.out.2 hg9 (fun _ h => h); have hq9 := hkp.2 _ _ _ _ (by decide) HQ8.out.1; have hs9 := hkp.2 _ _ _ _ (by decide) HW8.out.sbx; obtain ⟨m0, m1, m2, m3, m4, m5⟩ := box6w hq9; have hcs : w9.cell? ⟨Sb, 0, none⟩ = some (.int .i64 st.lang) ∧ w9.cell? ⟨Sb, 1, none⟩ = some (.bool st.num) ∧ w9.cell? ⟨Sb, 2, none⟩ = some (.bool st.word) := (by refine ⟨?_, ?_, ?_⟩ <;> simp [World.cell?, hs9]); obtain ⟨s0, s1, s2⟩ := hcs; have f0 := box_frozen hs9 0; have f1 := box_frozen hs9 1; have f2 := box_frozen hs9 2; obtain ⟨a9, c9, hv9, _, _⟩ := (Rd.of_own ho9).form; subst hv9))
      have hwn : IntKind.i64.wrap ((i : Int) + (s.n : Int)) = ((i + s.n : Nat) : Int) := by rw [IntWalk.i64_in _ (by omega)]; omega
      have hset := set3s hs9 (.int .i64 s.st.lang) (.bool s.st.num) (.bool s.st.word)
      have htu := set3s_turned w9 Sb (.int .i64 s.st.lang) (.bool s.st.num) (.bool s.st.word)
      have hb9 : Below w.heap.size w w9 := HW8.out.low.grown hg9 hw10 (fun x hx => (HRR.out.2.lt x hx).1)
      have hlw := below_turned hb9 (Nat.le_refl _) htu (fun x hx => by rw [hx]; exact HW8.out.slo)
      have ht9 := hkp.2 _ _ _ _ (by decide) HW8.out.tab
      have htS : Bt ≠ Sb := fun e => by
        rw [e, hs9] at ht9
        injection ht9 with h2
        injection h2 with _ h3 _
        exact absurd h3 (by decide)
      have htb := htu.cells ht9 htS
      have ho10 := ownsRow_turned ho9 htu (fun g hg e => by
        obtain ⟨cur2, h2⟩ := ownsRow_cells ho9 hg
        rw [show g = Sb from e, hs9] at h2
        injection h2 with h2
        injection h2 with _ h3 _
        exact absurd h3 (by decide))
      have hnew : WtS w V T l Bt Sb (i + s.n) (j + 1) s.st (c ++ s.cells) (.slice a9 (c.length + s.cells.length) c9) (((w9.setCell ⟨Sb, 0, none⟩ (.int .i64 s.st.lang)).setCell ⟨Sb, 1, none⟩ (.bool s.st.num)).setCell ⟨Sb, 2, none⟩ (.bool s.st.word)) :=
        ⟨hlw, HW8.out.slo, htb, hset, by rw [List.length_append]; simpa [byC] using ho10, fun x hx => (List.mem_append.1 hx).elim (HW8.out.rng x) (HSM.out.2.2 x), by rw [List.length_append]; omega, HW8.out.pre.step hil HSM.out.1, HSM.out.2.1.2.1, by have := HSM.out.2.1.1; have := HW8.out.mu; omega, hin8⟩
      have HNW := hidep hnew
      clear hnew hset htu hb9 hlw ht9 htS htb ho10 ho9 hg9 hkp hq9 hs9 hin8
      go_wp2
      refine ⟨LoopI.mk rfl ⟨rfl, rfl, rfl, rfl, rfl, i + s.n, j + 1, _, _, rfl, by show Value.int _ _ = _; go_num, HNW.out⟩, ?_⟩
      show 2 * n + 2 - _ < 2 * n + 2 - _
      simp [natI]; omega
  · have hii : ¬ (i : Int) < (n : Int) := by omega
    have HD := hidep (hW.pre.done HT.out.2.2.1 HT.out.2.2.2.2.2.1 (by rw [← HN.out]; omega))
    have hcl := hW.len
    have hjn : c.length ≤ 99999 := by omega
    have HCL := hidep hjn
    clear hW hcl hjn
    go_wp2
    go_ret2
    exact ⟨_, c, true, rfl, BysAt.of_own HW.out.row HW.out.rng, HCL.out, fun _ => HD.out, fun _ => rfl, HW.out.low⟩
end Go.Proofs.Ytcfjepcflanjbaa
