/- The code's Is: the closure with its memory of what failed; Is = the plain recursion. -/
import Derived.Test.YtcfjepcflanjbaaGreatBr02
import Derived.Test.YtcfjepcflanjbaaGreatBr20
namespace Go.Proofs.YtcfjepcflanjbaaGreat
open Go.RowKit Go.Lab Go.Shelf
set_option maxRecDepth 100000
/-! ### plain -/
def isV (T : TabZ) (l : List Sym) (C : List Int) (x : Nat × Nat × StZ) : Bool := isF T l (2 * l.length + 2) x.2.2 x.1 (C.drop x.2.1)
theorem isV_eq {T : TabZ} {l : List Sym} {C : List Int} (hv : zq8 T = 0) (hlang : ∀ x ∈ l, x.lang = 0 \/ x.lang = 1) (i k : Nat) (st : StZ) :
    isV T l C (i, k, st) = if l.length <= i then decide ((C.drop k).length = 0) else (nextZ T st l i).any fun s => begB (C.drop k) s.cells && isV T l C (i + s.n, k + s.cells.length, s.st) := by
  unfold isV
  conv => lhs; unfold isF
  by_cases hi : l.length <= i
  · rw [if_pos hi, if_pos hi]
  · rw [if_neg hi, if_neg hi]
    rw [Bool.eq_iff_iff]
    simp only [List.any_eq_true, Bool.and_eq_true, List.drop_drop]
    have hfu : ∀ s, s ∈ nextZ T st l i -> isF T l (2 * l.length + 1) s.st (i + s.n) (C.drop (k + s.cells.length)) = isF T l (2 * l.length + 2) s.st (i + s.n) (C.drop (k + s.cells.length)) := fun s hs => by
      have hm := zq8e hv (by omega) hlang hs
      have := zqd7 l st i
      exact zqa7 hv hlang _ _ _ _ _ (by omega) (by omega)
    constructor
    · rintro ⟨s, hs, h1, h2⟩
      exact ⟨s, hs, h1, by rw [<- hfu s hs]; exact h2⟩
    · rintro ⟨s, hs, h1, h2⟩
      exact ⟨s, hs, h1, by rw [hfu s hs]; exact h2⟩
theorem ruleSteps_len' (lang : Int) (wd : Bool) (lead : List Int) (l : List Sym) (i : Nat) (rs : List RuleZ) : (zq20 lang wd lead l i rs 0).length <= rs.length := zq67 lang wd lead l i rs 0
theorem next_len {T : TabZ} (hok : TabOk T) (st : StZ) (l : List Sym) (i : Nat) : (nextZ T st l i).length <= 100000 := by
  unfold nextZ
  split
  · simp
  · split
    · simp
    · refine Nat.le_trans (ruleSteps_len' _ _ _ _ _ _) ?_
      unfold TabZ.rules
      split
      · exact hok.n0
      · exact hok.n1
def bitN (b : Bool) : Nat := if b = true then 1 else 0
def spotN (m : Nat) (x : Nat × Nat × StZ) : Nat := x.1 * ((m + 1) * 8) + (x.2.1 * 8 + (x.2.2.lang.toNat * 4 + (bitN x.2.2.num * 2 + bitN x.2.2.word)))
def zq7f (n m : Nat) (x : Nat × Nat × StZ) : Prop := x.1 <= n /\ x.2.1 <= m /\ (x.2.2.lang = 0 \/ x.2.2.lang = 1)
theorem spotN_lt {n m : Nat} {x : Nat × Nat × StZ} (h : zq7f n m x) : spotN m x < (n + 1) * ((m + 1) * 8) := by
  obtain ⟨a, b, ⟨l, u, v⟩⟩ := x
  obtain ⟨h1, h2, h3⟩ := h
  simp only at h1 h2 h3
  have h4 : a * ((m + 1) * 8) <= n * ((m + 1) * 8) := Nat.mul_le_mul_right _ h1
  have h5 : (n + 1) * ((m + 1) * 8) = n * ((m + 1) * 8) + (m + 1) * 8 := by rw [Nat.add_mul, Nat.one_mul]
  unfold spotN bitN
  simp only
  have h6 : l.toNat <= 1 := by omega
  split <;> split <;> omega
theorem divmod_inj {M a b a' b' : Nat} (hb : b < M) (hb' : b' < M) (h : a * M + b = a' * M + b') : a = a' /\ b = b' := by
  have h1 : a = a' := by
    have e1 : (a * M + b) / M = a := by rw [Nat.mul_comm, Nat.mul_add_div (by omega), Nat.div_eq_of_lt hb]; rfl
    have e2 : (a' * M + b') / M = a' := by rw [Nat.mul_comm, Nat.mul_add_div (by omega), Nat.div_eq_of_lt hb']; rfl
    rw [<- e1, <- e2, h]
  subst h1
  exact ⟨rfl, by omega⟩
theorem spotN_inj {n m : Nat} {x y : Nat × Nat × StZ} (hx : zq7f n m x) (hy : zq7f n m y) (h : spotN m x = spotN m y) : x = y := by
  obtain ⟨a, b, ⟨l, u, v⟩⟩ := x
  obtain ⟨a', b', ⟨l', u', v'⟩⟩ := y
  obtain ⟨h1, h2, h3⟩ := hx
  obtain ⟨g1, g2, g3⟩ := hy
  simp only at h1 h2 h3 g1 g2 g3
  unfold spotN bitN at h
  simp only at h
  have h6 : l.toNat <= 1 := by omega
  have g6 : l'.toNat <= 1 := by omega
  obtain ⟨e1, e2⟩ := divmod_inj (by split <;> split <;> omega) (by split <;> split <;> omega) h
  have e3 : b = b' := by revert e2; split <;> split <;> split <;> split <;> omega
  have e4 : l = l' := by revert e2; split <;> split <;> split <;> split <;> omega
  subst e1 e3 e4
  cases u <;> cases u' <;> cases v <;> cases v' <;> simp at e2 ⊢
/-! ### memory -/
def fromV (Bt Bl Bc Bb Bf : Nat) : Value := .func (.func 51) #[] #[.pointer (some ⟨Bl, 0, none⟩), .pointer (some ⟨Bc, 0, none⟩), .pointer (some ⟨Bb, 0, none⟩), .pointer (some ⟨Bt, 0, none⟩), .pointer (some ⟨Bf, 0, none⟩)]
structure FrI (w0 : World) (V : TabV) (T : TabZ) (lv cv : Value) (l : List Sym) (C : List Int) (Bt Bl Bc Bb Bf Bm : Nat) (w : World) : Prop where
  low : Below w0.heap.size w0 w
  tab : w.heap[Bt]? = some (.cells #[V.a, V.b, V.d, V.c, V.n, V.e, V.s] 29)
  tx : w.heap[Bl]? = some (.cells #[lv] 31)
  ce : w.heap[Bc]? = some (.cells #[cv] 23)
  mb : w.heap[Bb]? = some (.cells #[.map (some Bm)] 93)
  fn : w.heap[Bf]? = some (.cells #[fromV Bt Bl Bc Bb Bf] 94)
  hm : w0.heap.size <= Bm
  mp : ∃ (ks : List (Nat × Nat × StZ)) (g : Nat × Nat × StZ -> Value), MapIs Tryz.prog 97 spotL zq80 (.bool false) w Bm ks.length g /\ ks.Nodup /\ (∀ x ∈ ks, zq7f l.length C.length x) /\ (∀ x, g x = .bool (decide (x ∈ ks))) /\ (∀ x ∈ ks, isV T l C x = false)
theorem FrI.turned {w0 w w' : World} {V : TabV} {T : TabZ} {lv cv : Value} {l : List Sym} {C : List Int} {Bt Bl Bc Bb Bf Bm : Nat} (h : FrI w0 V T lv cv l C Bt Bl Bc Bb Bf Bm w) (hb : Below w.heap.size w w') : FrI w0 V T lv cv l C Bt Bl Bc Bb Bf Bm w' := by
  refine ⟨h.low.trans (hb.mono h.low.size), zq0 hb h.tab, zq0 hb h.tx, zq0 hb h.ce, zq0 hb h.mb, zq0 hb h.fn, h.hm, ?_⟩
  obtain ⟨ks, g, h1, h2⟩ := h.mp
  exact ⟨ks, g, h1.below hb, h2⟩
theorem FrI.no_box {w0 w : World} {V : TabV} {T : TabZ} {lv cv : Value} {l : List Sym} {C : List Int} {Bt Bl Bc Bb Bf Bm : Nat} (h : FrI w0 V T lv cv l C Bt Bl Bc Bb Bf Bm w) {b : Nat} {cur : Array Value} {t : TypeId} {fz : Nat × Nat} (hb : w.heap[b]? = some (.cells cur t fz)) : b ≠ Bm := by
  obtain ⟨ks, g, h1, _⟩ := h.mp
  intro e
  subst e
  exact h1.no_cells _ _ _ hb
theorem FrI.fail {w0 w w' : World} {V : TabV} {T : TabZ} {lv cv : Value} {l : List Sym} {C : List Int} {Bt Bl Bc Bb Bf Bm : Nat} (h : FrI w0 V T lv cv l C Bt Bl Bc Bb Bf Bm w) {x : Nat × Nat × StZ} (hx : zq7f l.length C.length x) (hf : isV T l C x = false)
    {ks : List (Nat × Nat × StZ)} {g : Nat × Nat × StZ -> Value} (h1 : ks.Nodup) (h2 : ∀ x ∈ ks, zq7f l.length C.length x) (h3 : ∀ x, g x = .bool (decide (x ∈ ks))) (h4 : ∀ x ∈ ks, isV T l C x = false)
    (hm1 : MapIs Tryz.prog 97 spotL zq80 (.bool false) w' Bm (ks.length + 1) (updK g x (.bool true))) (hm2 : g x ≠ .bool false -> MapIs Tryz.prog 97 spotL zq80 (.bool false) w' Bm ks.length (updK g x (.bool true))) (hg : w.grownBy w' (some Bm)) :
    FrI w0 V T lv cv l C Bt Bl Bc Bb Bf Bm w' := by
  have keep : ∀ (b : Nat) (cur : Array Value) (t : TypeId) (fz : Nat × Nat), w.heap[b]? = some (.cells cur t fz) -> w'.heap[b]? = some (.cells cur t fz) := fun b cur t fz hb => by
    rw [hg.block b (lt_of_block hb) (fun e => h.no_box hb (by injection e))]
    exact hb
  refine ⟨h.low.grown hg h.low.size (fun k hk => by injection hk with hk; subst hk; exact h.hm), keep _ _ _ _ h.tab, keep _ _ _ _ h.tx, keep _ _ _ _ h.ce, keep _ _ _ _ h.mb, keep _ _ _ _ h.fn, h.hm, ?_⟩
  by_cases hin : x ∈ ks
  · refine ⟨ks, updK g x (.bool true), hm2 (by rw [h3]; simp [hin]), h1, h2, fun y => ?_, h4⟩
    unfold updK
    split
    · rename_i e; subst e; simp [hin]
    · exact h3 y
  · refine ⟨x :: ks, updK g x (.bool true), hm1, by rw [List.nodup_cons]; exact ⟨hin, h1⟩, fun y hy => ?_, fun y => ?_, fun y hy => ?_⟩
    · rcases List.mem_cons.1 hy with rfl | hy
      · exact hx
      · exact h2 y hy
    · unfold updK
      split
      · rename_i e; subst e; simp
      · rename_i e; rw [h3]; simp [e]
    · rcases List.mem_cons.1 hy with rfl | hy
      · exact hf
      · exact h4 y hy
theorem ks_small {n m : Nat} {ks : List (Nat × Nat × StZ)} (hn : n <= 2048) (hm : m <= 8192) (h1 : ks.Nodup) (h2 : ∀ x ∈ ks, zq7f n m x) : ks.length < maxLen := by
  have h := nodup_code_length (spotN m) ((n + 1) * ((m + 1) * 8)) ks h1 (fun x hx y hy e => spotN_inj (h2 x hx) (h2 y hy) e) (fun x hx => spotN_lt (h2 x hx))
  have h3 : (n + 1) * ((m + 1) * 8) <= 2049 * (8193 * 8) := Nat.mul_le_mul (by omega) (Nat.mul_le_mul_right _ (by omega))
  unfold maxLen
  omega
theorem frame63 (t : Array Value) (ds : List Deferred) (h : t.size = 63) : ({ tmps := t, defers := ds } : Act) = { tmps := #[slot t 0, slot t 1, slot t 2, slot t 3, slot t 4, slot t 5, slot t 6, slot t 7, slot t 8, slot t 9, slot t 10, slot t 11, slot t 12, slot t 13, slot t 14, slot t 15, slot t 16, slot t 17, slot t 18, slot t 19, slot t 20, slot t 21, slot t 22, slot t 23, slot t 24, slot t 25, slot t 26, slot t 27, slot t 28, slot t 29, slot t 30, slot t 31, slot t 32, slot t 33, slot t 34, slot t 35, slot t 36, slot t 37, slot t 38, slot t 39, slot t 40, slot t 41, slot t 42, slot t 43, slot t 44, slot t 45, slot t 46, slot t 47, slot t 48, slot t 49, slot t 50, slot t 51, slot t 52, slot t 53, slot t 54, slot t 55, slot t 56, slot t 57, slot t 58, slot t 59, slot t 60, slot t 61, slot t 62], defers := ds } :=
  (congrArg (fun x => ({ tmps := x, defers := ds } : Act)) (zq1e h)).trans (by kernel_rfl)
theorem box6 {w : World} {b : Nat} {x0 x1 x2 x3 x4 x5 : Value} {t : TypeId} (h : w.heap[b]? = some (.cells #[x0, x1, x2, x3, x4, x5] t)) : w.cell? ⟨b, 0, none⟩ = some x0 /\ w.cell? ⟨b, 1, none⟩ = some x1 /\ w.cell? ⟨b, 2, none⟩ = some x2 /\ w.cell? ⟨b, 3, none⟩ = some x3 /\ w.cell? ⟨b, 4, none⟩ = some x4 /\ w.cell? ⟨b, 5, none⟩ = some x5 := by
  refine ⟨?_, ?_, ?_, ?_, ?_, ?_⟩ <;> simp [World.cell?, h]
theorem box5 {w : World} {b : Nat} {x0 x1 x2 x3 x4 : Value} {t : TypeId} (h : w.heap[b]? = some (.cells #[x0, x1, x2, x3, x4] t)) : w.cell? ⟨b, 0, none⟩ = some x0 /\ w.cell? ⟨b, 1, none⟩ = some x1 /\ w.cell? ⟨b, 2, none⟩ = some x2 /\ w.cell? ⟨b, 3, none⟩ = some x3 /\ w.cell? ⟨b, 4, none⟩ = some x4 := by
  refine ⟨?_, ?_, ?_, ?_, ?_⟩ <;> simp [World.cell?, h]
structure FrC (V : TabV) (lv cv : Value) (Bt Bl Bc Bb Bf Bm : Nat) (w : World) : Prop where
  q0 : w.cell? ⟨Bt, 0, none⟩ = some V.a
  q1 : w.cell? ⟨Bt, 1, none⟩ = some V.b
  q2 : w.cell? ⟨Bt, 2, none⟩ = some V.d
  q3 : w.cell? ⟨Bt, 3, none⟩ = some V.c
  q4 : w.cell? ⟨Bt, 4, none⟩ = some V.n
  q5 : w.cell? ⟨Bt, 5, none⟩ = some V.e
  q6 : w.cell? ⟨Bt, 6, none⟩ = some V.s
  tx : w.cell? ⟨Bl, 0, none⟩ = some lv
  ce : w.cell? ⟨Bc, 0, none⟩ = some cv
  mb : w.cell? ⟨Bb, 0, none⟩ = some (.map (some Bm))
  fn : w.cell? ⟨Bf, 0, none⟩ = some (.func (.func 51) #[] #[.pointer (some ⟨Bl, 0, none⟩), .pointer (some ⟨Bc, 0, none⟩), .pointer (some ⟨Bb, 0, none⟩), .pointer (some ⟨Bt, 0, none⟩), .pointer (some ⟨Bf, 0, none⟩)])
theorem FrI.sight {w0 w : World} {V : TabV} {T : TabZ} {lv cv : Value} {l : List Sym} {C : List Int} {Bt Bl Bc Bb Bf Bm : Nat} (h : FrI w0 V T lv cv l C Bt Bl Bc Bb Bf Bm w) : FrC V lv cv Bt Bl Bc Bb Bf Bm w := by
  have h1 := h.tab
  have h2 := h.tx
  have h3 := h.ce
  have h4 := h.mb
  have h5 := h.fn
  unfold fromV at h5
  refine ⟨?_, ?_, ?_, ?_, ?_, ?_, ?_, ?_, ?_, ?_, ?_⟩ <;> simp [World.cell?, h1, h2, h3, h4, h5]
theorem FrI.no_cells {w0 w : World} {V : TabV} {T : TabZ} {lv cv : Value} {l : List Sym} {C : List Int} {Bt Bl Bc Bb Bf Bm : Nat} (h : FrI w0 V T lv cv l C Bt Bl Bc Bb Bf Bm w) (b : Nat) (hb : b = Bm) (cur : Array Value) (t : TypeId) (fz : Nat × Nat) : w.heap[b]? ≠ some (.cells cur t fz) := by
  subst hb
  obtain ⟨ks, g, h1, _⟩ := h.mp
  exact h1.no_cells cur t fz
theorem StepsIn.keeps {w w' : World} {v : Value} {l : List StpZ} (h : StepsIn w v l) (hk : Keeps (fun _ => True) w w') : StepsIn w' v l := by
  obtain ⟨us, h1, h2, h3⟩ := h
  exact ⟨us, h1, h2.keeps hk, fun i a b => ⟨(h3 i a b).1.keeps hk, (h3 i a b).2⟩⟩
theorem BysAt.keeps {w w' : World} {v : Value} {l : List Int} (h : BysAt w v l) (hk : Keeps (fun _ => True) w w') : BysAt w' v l := ⟨h.1.keeps hk, h.2⟩
def IsM8 (V : TabV) (T : TabZ) (lv cv : Value) (l : List Sym) (C : List Int) (w0 X8 : World) (Bt Bl Bc Bb Bf Bm : Nat) (v6 v29 v30 v31 : Value) (tb : Bool) : Act -> World -> Prop := fun a W => a.tmps.size = 63 /\ a.defers = [] /\ slot a.tmps 1 = .pointer (some ⟨Bl, 0, none⟩) /\ slot a.tmps 2 = .pointer (some ⟨Bc, 0, none⟩) /\ slot a.tmps 3 = .pointer (some ⟨Bb, 0, none⟩) /\ slot a.tmps 5 = .pointer (some ⟨Bf, 0, none⟩) /\ slot a.tmps 6 = v6 /\ slot a.tmps 29 = v29 /\ slot a.tmps 30 = v30 /\ slot a.tmps 31 = v31 /\ slot a.tmps 59 = .bool tb /\ FrI w0 V T lv cv l C Bt Bl Bc Bb Bf Bm W /\ Turned (fun b => b = Bm) X8 W
set_option maxHeartbeats 4000000 in
theorem from_any (V : TabV) (T : TabZ) (lv cv : Value) (l : List Sym) (C : List Int) (w0 : World) (Bt Bl Bc Bb Bf Bm : Nat) (hT : TabIn w0 V T) (hok : TabOk T) (hv : zq8 T = 0) (h : SymsAt w0 lv l) (hr : SymOk l) (hgood : l.all goodB = true) (hl : l.length <= 2048) (hlang : ∀ x ∈ l, x.lang = 0 \/ x.lang = 1) (hC : BysAt w0 cv C) (hCl : C.length <= 8192) :
    ∀ (f : Nat) (st : StZ) (i k : Nat) (w : World), isM l st i < f -> zq7f l.length C.length (i, k, st) -> FrI w0 V T lv cv l C Bt Bl Bc Bb Bf Bm w ->
    Calls Tryz.prog 51 #[.agg #[.int .i64 (i : Nat), .int .i64 (k : Nat), .int .i64 st.lang, .bool st.num, .bool st.word], .pointer (some ⟨Bl, 0, none⟩), .pointer (some ⟨Bc, 0, none⟩), .pointer (some ⟨Bb, 0, none⟩), .pointer (some ⟨Bt, 0, none⟩), .pointer (some ⟨Bf, 0, none⟩)] w
      fun e w' => e = .returned (.bool (isV T l C (i, k, st))) /\ FrI w0 V T lv cv l C Bt Bl Bc Bb Bf Bm w' /\ Turned (fun b => b = Bm) w w'
  | 0, _, _, _, _, hf, _, _ => by omega
  | f + 1, st, i, k, w, hf, hin, hI => by
    have IH := hidep (from_any V T lv cv l C w0 Bt Bl Bc Bb Bf Bm hT hok hv h hr hgood hl hlang hC hCl f)
    have HEQ := hidep (isV_eq (C := C) hv hlang i k st)
    have HMEM := hidep (fun hi s hs => zq8e (T := T) (st := st) (l := l) (i := i) hv hi hlang (s := s) hs)
    have HST := hidep (fun hi W (hW : Below w0.heap.size w0 W) => stepsT_any V T st lv l i W (hT.below hW) hok hv (h.below hW) hr hgood (by omega) hi hlang hin.2.2)
    obtain ⟨a, cap, rfl, h2, h3⟩ := h.form
    obtain ⟨ca, cc, rfl, hc2, hc3⟩ := hC.1.form
    unfold maxLen at h3 hc3
    obtain ⟨RES, hRES⟩ : ∃ R, R = isV T l C (i, k, st) := ⟨_, rfl⟩
    rw [<- hRES] at HEQ ⊢
    have HRES := hidep hRES
    have HI := hidep hI
    have HIN := hidep hin
    have HF := hidep hf
    have HC := hidep hC
    have hi0 := hin.1
    have hk0 := hin.2.1
    simp only at hi0 hk0
    have HH := hidep (And.intro hT (And.intro hok (And.intro hv (And.intro h (And.intro hr hlang)))))
    clear hT hok hv h hr hlang hC hf hin hRES
    unfold TabV.v at HST
    obtain ⟨n, hn⟩ : ∃ n, n = l.length := ⟨_, rfl⟩
    obtain ⟨m, hm⟩ : ∃ m, m = C.length := ⟨_, rfl⟩
    have HN := hidep hn
    have HM := hidep hm
    rw [<- hn] at h2 hl hi0 HEQ HST
    rw [<- hm] at hc2 hCl hk0
    clear hn hm hI
    go_enter Tryz.func51, Tryz.ntmps51
    go_upto_region 1 with (fail)
    obtain ⟨Bs, hBs⟩ : ∃ B, B = w.heap.size := ⟨_, rfl⟩
    refine zq9 (fun X => Below w.heap.size w X /\ X.heap[Bs]? = some (.cells #[.int .i64 (i : Nat), .int .i64 (k : Nat), .int .i64 st.lang, .bool st.num, .bool st.word] 97)) ⟨(Below.refl _ _).alloc (Nat.le_refl _) _, by rw [hBs]; exact heap_alloc_new _ _⟩ ?_
    rintro X ⟨hbX, hs⟩
    rw [<- hBs]
    have HBS := hidep hBs
    have HIX := hidep (HI.out.turned hbX)
    have HBX := hidep hbX
    have HS := hidep hs
    obtain ⟨s0, s1, s2, s3, s4⟩ := box5 hs
    have hsi := HIX.out.sight
    rw [<- HN.out, <- HM.out] at hsi
    obtain ⟨q0, q1, q2, q3, q4, q5, q6, qt, qc, qm, qf⟩ := hsi
    clear hBs hbX hs
    by_cases hil : i = n
    · have HE2 := hidep (HEQ.out.trans (if_pos (by omega)))
      have hie : ((i : Int) == (n : Int)) = true := by simp [hil]
      have hie2 : (i : Int) = (n : Int) := by omega
      by_cases hkm : k = m
      · have hke : ((k : Int) == (m : Int)) = true := by simp [hkm]
        have hke2 : (k : Int) = (m : Int) := by omega
        have HE3 := hidep (HE2.out.trans (decide_eq_true (by rw [List.length_drop, <- HM.out]; omega)))
        clear hil hkm
        go_wp2
        go_ret
        exact ⟨zqb (congrArg Value.bool HE3.out.symm), HIX.out, Turned.of_below HBX.out⟩
      · have hke : ((k : Int) == (m : Int)) = false := beq_false_of_ne (by omega)
        have hke2 : ¬ (k : Int) = (m : Int) := by omega
        have HE3 := hidep (HE2.out.trans (decide_eq_false (by rw [List.length_drop, <- HM.out]; omega)))
        clear hil hkm
        go_wp2
        go_ret
        exact ⟨zqb (congrArg Value.bool HE3.out.symm), HIX.out, Turned.of_below HBX.out⟩
    · have hin2 : i < n := by omega
      have HE2 := hidep (HEQ.out.trans (if_neg (by omega)))
      have HST2 := hidep (HST.out hin2)
      have HME := hidep (HMEM.out (by rw [<- HN.out]; exact hin2))
      have hie : ((i : Int) == (n : Int)) = false := beq_false_of_ne (by omega)
      have hie2 : ¬ (i : Int) = (n : Int) := by omega
      obtain ⟨ks, g, hmap, hks1, hks2, hks3, hks4⟩ := HIX.out.mp
      have hlk := hmap.lookup spotK (x := (i, k, st)) ⟨by show i <= 1000000; omega, by show k <= 1000000; omega, HIN.out.2.2⟩
      rw [hks3] at hlk
      unfold spotV stC at hlk
      simp only at hlk
      by_cases hmem : (i, k, st) ∈ ks
      · have HE3 := hidep (HRES.out.trans (hks4 _ hmem))
        rw [decide_eq_true hmem] at hlk
        clear hmap hks1 hks2 hks3 hks4 hil hmem HST HEQ HMEM
        go_wp2
        go_ret
        exact ⟨zqb (congrArg Value.bool HE3.out.symm), HIX.out, Turned.of_below HBX.out⟩
      · rw [decide_eq_false hmem] at hlk
        clear hmap hks1 hks2 hks3 hks4 hil hmem HST HEQ HMEM
        go_upto_region 6 with (go_at_call 52; refine (HST2.out _ HIX.out.low).mono ?_; rintro e w1 ⟨⟨v1, rfl, hv1⟩, hb1⟩; have hsi := hv1.into; obtain ⟨va, vc, rfl, hvc, hvm⟩ := hsi.form)
        obtain ⟨L, hL⟩ : ∃ L, L = nextZ T st l i := ⟨_, rfl⟩
        rw [<- hL] at hv1 hsi hvc HME HE2 ⊢
        have hLn : L.length <= 100000 := by
          rw [hL]
          exact next_len HH.out.2.1 _ _ _
        unfold maxLen at hvm
        have HSI := hidep hsi
        have HB1 := hidep hb1
        have HI1 := hidep (HIX.out.turned hb1)
        have HS1 := hidep (zq0 hb1 HS.out)
        clear hL hv1 hsi s0 s1 s2 s3 s4 q0 q1 q2 q3 q4 q5 q6 qt qc qm qf hb1 hlk
        refine wp_loop (LoopI 63 (fun tm ds wr => (slot tm 1) = .pointer (some ⟨Bl, 0, none⟩) /\ (slot tm 2) = .pointer (some ⟨Bc, 0, none⟩) /\ (slot tm 3) = .pointer (some ⟨Bb, 0, none⟩) /\ (slot tm 5) = .pointer (some ⟨Bf, 0, none⟩) /\ (slot tm 6) = .pointer (some ⟨Bs, 0, none⟩) /\ (slot tm 29) = .slice va L.length vc /\ (slot tm 30) = .int .i64 (L.length : Nat) /\ ds = [] /\ ∃ j : Nat, j <= L.length /\ (slot tm 31) = .int .i64 (j : Nat) /\ Hid (((L.take j).any fun s => begB (C.drop k) s.cells && isV T l C (i + s.n, k + s.cells.length, s.st)) = false) /\ FrI w0 V T (.slice a l.length cap) (.slice ca C.length cc) l C Bt Bl Bc Bb Bf Bm wr /\ Turned (fun b => b = Bm) w1 wr)) (fun a' wr => L.length - natI (a'.tmps.getD 31 undef)) ?nlStart ?nlRound
        case' nlStart => refine LoopI.mk rfl ?_
        case' nlRound => (rintro ⟨t, ds⟩ wr ⟨hts, hrel⟩; dsimp only at hts hrel; rw [frame63 t ds hts])
        case nlStart => exact ⟨rfl, rfl, rfl, rfl, rfl, rfl, rfl, rfl, 0, Nat.zero_le _, rfl, hidep rfl, HI1.out, Turned.refl _ _⟩
        obtain ⟨e1, e2, e3, e5, e6, e29, e30, hds, j, hj, e31, HG, hIw, hTw⟩ := hrel
        subst hds
        rw [e1, e2, e3, e5, e6, e29, e30, e31]
        clear e1 e2 e3 e5 e6 e29 e30 e31 hts
        have HIW := hidep hIw
        have HTW := hidep hTw
        have HSW := hidep (hTw.cells HS1.out (HI1.out.no_box HS1.out))
        have HSIW := hidep (HSI.out.keeps (hTw.keeps HI1.out.no_cells))
        clear hIw hTw
        by_cases hjL : j < L.length
        · have hji : (j : Int) < (L.length : Int) := by omega
          have hj1 : (0 : Int) <= (j : Int) := by omega
          have hwk : IntKind.i64.wrap ((j : Int) + 1) = (j : Int) + 1 := IntWalk.i64_in _ (by omega)
          have HTS := hidep (any_take_succ (fun s => begB (C.drop k) s.cells && isV T l C (i + s.n, k + s.cells.length, s.st)) L j hjL)
          have HANY := hidep (show (begB (C.drop k) L[j].cells && isV T l C (i + L[j].n, k + L[j].cells.length, L[j].st)) = true -> (L.any fun s => begB (C.drop k) s.cells && isV T l C (i + s.n, k + s.cells.length, s.st)) = true from fun h => List.any_eq_true.2 ⟨_, List.getElem_mem hjL, h⟩)
          have hme := HME.out _ (List.getElem_mem hjL)
          obtain ⟨b, off, s, ua, uc, hs, rfl, hrb, r0, r1, r2, r3, r4, r5, hu⟩ := HSIW.out.get hjL
          rw [hs] at HTS HANY hme
          clear hs
          have hsi := HIW.out.sight
          rw [<- HN.out, <- HM.out] at hsi
          obtain ⟨q0, q1, q2, q3, q4, q5, q6, qt, qc, qm, qf⟩ := hsi
          go_upto_region 8 with (fail)
          obtain ⟨Bq, hBq⟩ : ∃ B, B = wr.heap.size := ⟨_, rfl⟩
          refine zq9 (fun X8 => Below wr.heap.size wr X8 /\ X8.heap[Bq]? = some (.cells #[.int .i64 s.st.lang, .bool s.st.num, .bool s.st.word, .int .i64 (s.n : Nat), .slice ua s.cells.length uc, .int .i64 s.rule] 101)) ⟨(Below.refl _ _).alloc (Nat.le_refl _) _, by rw [hBq]; exact heap_alloc_new _ _⟩ ?_
          rintro X8 ⟨hb8, hq8⟩
          rw [<- hBq]
          have HI8 := hidep (HIW.out.turned hb8)
          have HS8 := hidep (zq0 hb8 HSW.out)
          have HQ8 := hidep hq8
          have HU8 := hidep (hu.below hb8)
          have HT8 := hidep (HTW.out.below hb8)
          clear hBq hb8 hq8 hu q0 q1 q2 q3 q4 q5 q6 qt qc qm qf r0 r1 r2 r3 r4 r5
          have HSEE := hidep (fun Z (hZ : FrI w0 V T (.slice a l.length cap) (.slice ca C.length cc) l C Bt Bl Bc Bb Bf Bm Z /\ Turned (fun b => b = Bm) X8 Z) => by
            have h1 := hZ.1.sight
            rw [<- HN.out, <- HM.out] at h1
            exact And.intro h1 (And.intro (box5 (hZ.2.cells HS8.out (HI8.out.no_box HS8.out))) (box6 (hZ.2.cells HQ8.out (HI8.out.no_box HQ8.out)))))
          have hdr := HC.out.drop (m := k) (by rw [<- HM.out]; exact hk0)
          rw [<- HM.out] at hdr
          have HBG := hidep (fun Z (hZ : FrI w0 V T (.slice a l.length cap) (.slice ca C.length cc) l C Bt Bl Bc Bb Bf Bm Z /\ Turned (fun b => b = Bm) X8 Z) vv (hvv : Value.slice (if cc = k then ca else ca.map (·.add k)) (m - k) (cc - k) = vv) => hvv ▸ zq9e _ _ (C.drop k) s.cells Z (hdr.below hZ.1.low) (HU8.out.keeps (hZ.2.keeps HI8.out.no_cells)))
          obtain ⟨bb, hbb⟩ : ∃ x, x = begB (C.drop k) s.cells := ⟨_, rfl⟩
          have HBB := hidep hbb
          rw [<- hbb] at HBG HTS HANY
          have hk1 : (k : Int) <= (m : Int) := by omega
          have hk2 : (k : Int) <= (cc : Int) := by omega
          have hk3 : (m : Int) <= (cc : Int) := by omega
          clear hbb hdr
          obtain ⟨rb2, hrb2⟩ : ∃ x, x = isV T l C (i + s.n, k + s.cells.length, s.st) := ⟨_, rfl⟩
          rw [<- hrb2] at HTS HANY
          have HRB := hidep hrb2
          clear hrb2
          refine zq17 (IsM8 V T (.slice a l.length cap) (.slice ca C.length cc) l C w0 X8 Bt Bl Bc Bb Bf Bm (.pointer (some ⟨Bs, 0, none⟩)) (.slice (some ⟨b, off, none⟩) L.length vc) (.int .i64 (L.length : Nat)) (.int .i64 (j : Nat)) (bb && rb2)) ?r8 ?_
          case r8 =>
            intro K' hMK
            cases bb with
            | false =>
              by_cases hvk : cc = k
              case pos =>
                have HVK := hidep hvk
                refine wp_region_noPanic (wp_region_held_drew (S := (fun Z => FrI w0 V T (.slice a l.length cap) (.slice ca C.length cc) l C Bt Bl Bc Bb Bf Bm Z /\ Turned (fun b => b = Bm) X8 Z)) (by kernel_rfl) ?hSz0 (fun hHeld => ?hRz0))
                case hSz0 => ((try dsimp only); (exact ⟨HI8.out.turned ((Below.refl _ _).drew), (Turned.refl _ _).drew⟩))
                refine tkB 0 rfl (.inl ⟨by kernel_rfl, fun w hSw => by (obtain ⟨⟨q0, q1, q2, q3, q4, q5, q6, qt, qc, qm, qf⟩, ⟨s0, s1, s2, s3, s4⟩, p0, p1, p2, p3, p4, p5⟩ := HSEE.out _ hSw); go_simp; first | done | with_reducible rfl⟩) ?_
                refine tkC 1 rfl ?_
                refine tkB 2 rfl (.inl ⟨by kernel_rfl, fun w hSw => by (obtain ⟨⟨q0, q1, q2, q3, q4, q5, q6, qt, qc, qm, qf⟩, ⟨s0, s1, s2, s3, s4⟩, p0, p1, p2, p3, p4, p5⟩ := HSEE.out _ hSw); go_simp; first | done | with_reducible rfl⟩) ?_
                refine tkC 3 rfl ?_
                refine tkC 4 rfl ?_
                refine tkB 5 rfl (.inl ⟨by kernel_rfl, fun w hSw => by (obtain ⟨⟨q0, q1, q2, q3, q4, q5, q6, qt, qc, qm, qf⟩, ⟨s0, s1, s2, s3, s4⟩, p0, p1, p2, p3, p4, p5⟩ := HSEE.out _ hSw); go_simp; first | done | with_reducible rfl⟩) ?_
                refine wpAnyH_ready (rs := [6]) (by kernel_rfl) (by simp) (AllReadyH.cons rfl (fun K hK => ?hcz1) AllReadyH.nil)
                go_simp
                (go_at_call 53; refine (HBG.out _ hHeld _ (by simp [HVK.out])).mono ?_; rintro e' w9 ⟨rfl, hb9⟩; have hk := hHeld.1.turned hb9; have hkt := hHeld.2.below hb9; (try dsimp only))
                refine hK.out _ _ (by (try dsimp only); (exact ⟨hk, hkt⟩)) ?_
                clear hHeld hK; intro hHeld
                refine tkC 7 rfl ?_
                refine tkB 8 rfl (.inr ⟨by kernel_rfl, rfl⟩) ?_
                refine tkB 9 rfl (.inr ⟨by kernel_rfl, rfl⟩) ?_
                refine tkB 10 rfl (.inr ⟨by kernel_rfl, rfl⟩) ?_
                refine tkB 11 rfl (.inr ⟨by kernel_rfl, rfl⟩) ?_
                refine tkB 12 rfl (.inr ⟨by kernel_rfl, rfl⟩) ?_
                refine tkB 13 rfl (.inr ⟨by kernel_rfl, rfl⟩) ?_
                refine tkB 14 rfl (.inr ⟨by kernel_rfl, rfl⟩) ?_
                refine tkB 15 rfl (.inr ⟨by kernel_rfl, rfl⟩) ?_
                refine tkB 16 rfl (.inr ⟨by kernel_rfl, rfl⟩) ?_
                refine tkB 17 rfl (.inr ⟨by kernel_rfl, rfl⟩) ?_
                refine tkB 18 rfl (.inr ⟨by kernel_rfl, rfl⟩) ?_
                refine tkB 19 rfl (.inr ⟨by kernel_rfl, rfl⟩) ?_
                refine tkB 20 rfl (.inr ⟨by kernel_rfl, rfl⟩) ?_
                refine tkB 21 rfl (.inr ⟨by kernel_rfl, rfl⟩) ?_
                refine tkB 22 rfl (.inr ⟨by kernel_rfl, rfl⟩) ?_
                refine wpAnyH_ready (rs := [23]) (by kernel_rfl) (by simp) (AllReadyH.cons rfl (fun K hK => ?hcz2) AllReadyH.nil)
                first | rw [if_neg (ne_true_of_eq_false (by kernel_rfl))] | rw [if_neg (by decide)]
                refine hK.out _ _ (by (try dsimp only); (exact ⟨hk, hkt⟩)) ?_
                clear hHeld hK; intro hHeld
                refine tkC 24 rfl ?_
                refine wpAnyH_done (by kernel_rfl) ?_ _
                clear hHeld
                refine NoPanic.normal ?_
                dsimp only [Exit.then]
                (refine hMK _ _ ⟨?_, ?_, ?_, ?_, ?_, ?_, ?_, ?_, ?_, ?_, ?_, hk, hkt⟩ <;> kernel_rfl)
              case neg =>
                have HVK := hidep hvk
                refine wp_region_noPanic (wp_region_held_drew (S := (fun Z => FrI w0 V T (.slice a l.length cap) (.slice ca C.length cc) l C Bt Bl Bc Bb Bf Bm Z /\ Turned (fun b => b = Bm) X8 Z)) (by kernel_rfl) ?hSz3 (fun hHeld => ?hRz3))
                case hSz3 => ((try dsimp only); (exact ⟨HI8.out.turned ((Below.refl _ _).drew), (Turned.refl _ _).drew⟩))
                refine tkB 0 rfl (.inl ⟨by kernel_rfl, fun w hSw => by (obtain ⟨⟨q0, q1, q2, q3, q4, q5, q6, qt, qc, qm, qf⟩, ⟨s0, s1, s2, s3, s4⟩, p0, p1, p2, p3, p4, p5⟩ := HSEE.out _ hSw); go_simp; first | done | with_reducible rfl⟩) ?_
                refine tkC 1 rfl ?_
                refine tkB 2 rfl (.inl ⟨by kernel_rfl, fun w hSw => by (obtain ⟨⟨q0, q1, q2, q3, q4, q5, q6, qt, qc, qm, qf⟩, ⟨s0, s1, s2, s3, s4⟩, p0, p1, p2, p3, p4, p5⟩ := HSEE.out _ hSw); go_simp; first | done | with_reducible rfl⟩) ?_
                refine tkC 3 rfl ?_
                refine tkC 4 rfl ?_
                refine tkB 5 rfl (.inl ⟨by kernel_rfl, fun w hSw => by (obtain ⟨⟨q0, q1, q2, q3, q4, q5, q6, qt, qc, qm, qf⟩, ⟨s0, s1, s2, s3, s4⟩, p0, p1, p2, p3, p4, p5⟩ := HSEE.out _ hSw); go_simp; first | done | with_reducible rfl⟩) ?_
                refine wpAnyH_ready (rs := [6]) (by kernel_rfl) (by simp) (AllReadyH.cons rfl (fun K hK => ?hcz4) AllReadyH.nil)
                go_simp
                (go_at_call 53; refine (HBG.out _ hHeld _ (by simp [HVK.out])).mono ?_; rintro e' w9 ⟨rfl, hb9⟩; have hk := hHeld.1.turned hb9; have hkt := hHeld.2.below hb9; (try dsimp only))
                refine hK.out _ _ (by (try dsimp only); (exact ⟨hk, hkt⟩)) ?_
                clear hHeld hK; intro hHeld
                refine tkC 7 rfl ?_
                refine tkB 8 rfl (.inr ⟨by kernel_rfl, rfl⟩) ?_
                refine tkB 9 rfl (.inr ⟨by kernel_rfl, rfl⟩) ?_
                refine tkB 10 rfl (.inr ⟨by kernel_rfl, rfl⟩) ?_
                refine tkB 11 rfl (.inr ⟨by kernel_rfl, rfl⟩) ?_
                refine tkB 12 rfl (.inr ⟨by kernel_rfl, rfl⟩) ?_
                refine tkB 13 rfl (.inr ⟨by kernel_rfl, rfl⟩) ?_
                refine tkB 14 rfl (.inr ⟨by kernel_rfl, rfl⟩) ?_
                refine tkB 15 rfl (.inr ⟨by kernel_rfl, rfl⟩) ?_
                refine tkB 16 rfl (.inr ⟨by kernel_rfl, rfl⟩) ?_
                refine tkB 17 rfl (.inr ⟨by kernel_rfl, rfl⟩) ?_
                refine tkB 18 rfl (.inr ⟨by kernel_rfl, rfl⟩) ?_
                refine tkB 19 rfl (.inr ⟨by kernel_rfl, rfl⟩) ?_
                refine tkB 20 rfl (.inr ⟨by kernel_rfl, rfl⟩) ?_
                refine tkB 21 rfl (.inr ⟨by kernel_rfl, rfl⟩) ?_
                refine tkB 22 rfl (.inr ⟨by kernel_rfl, rfl⟩) ?_
                refine wpAnyH_ready (rs := [23]) (by kernel_rfl) (by simp) (AllReadyH.cons rfl (fun K hK => ?hcz5) AllReadyH.nil)
                first | rw [if_neg (ne_true_of_eq_false (by kernel_rfl))] | rw [if_neg (by decide)]
                refine hK.out _ _ (by (try dsimp only); (exact ⟨hk, hkt⟩)) ?_
                clear hHeld hK; intro hHeld
                refine tkC 24 rfl ?_
                refine wpAnyH_done (by kernel_rfl) ?_ _
                clear hHeld
                refine NoPanic.normal ?_
                dsimp only [Exit.then]
                (refine hMK _ _ ⟨?_, ?_, ?_, ?_, ?_, ?_, ?_, ?_, ?_, ?_, ?_, hk, hkt⟩ <;> kernel_rfl)
            | true =>
              have hle := begB_len HBB.out.symm
              rw [List.length_drop, <- HM.out] at hle
              have hwi : IntKind.i64.wrap ((i : Int) + (s.n : Int)) = (i : Int) + (s.n : Int) := IntWalk.i64_in _ (by omega)
              have hwj : IntKind.i64.wrap ((k : Int) + (s.cells.length : Int)) = (k : Int) + (s.cells.length : Int) := IntWalk.i64_in _ (by omega)
              have HIS := hidep (fun Z (hZ : FrI w0 V T (.slice a l.length cap) (.slice ca C.length cc) l C Bt Bl Bc Bb Bf Bm Z /\ Turned (fun b => b = Bm) X8 Z) => by
                have hh := IH.out s.st (i + s.n) (k + s.cells.length) Z (by have := HF.out; omega) ⟨hme.2.2.1, by show k + s.cells.length <= C.length; rw [<- HM.out]; omega, hme.2.1⟩ hZ.1
                rw [Int.natCast_add, Int.natCast_add, <- HRB.out] at hh
                exact hh)
              clear hme
              by_cases hvk : cc = k
              case pos =>
                have HVK := hidep hvk
                refine wp_region_noPanic (wp_region_held_drew (S := (fun Z => FrI w0 V T (.slice a l.length cap) (.slice ca C.length cc) l C Bt Bl Bc Bb Bf Bm Z /\ Turned (fun b => b = Bm) X8 Z)) (by kernel_rfl) ?hSz6 (fun hHeld => ?hRz6))
                case hSz6 => ((try dsimp only); (exact ⟨HI8.out.turned ((Below.refl _ _).drew), (Turned.refl _ _).drew⟩))
                refine tkB 0 rfl (.inl ⟨by kernel_rfl, fun w hSw => by (obtain ⟨⟨q0, q1, q2, q3, q4, q5, q6, qt, qc, qm, qf⟩, ⟨s0, s1, s2, s3, s4⟩, p0, p1, p2, p3, p4, p5⟩ := HSEE.out _ hSw); go_simp; first | done | with_reducible rfl⟩) ?_
                refine tkC 1 rfl ?_
                refine tkB 2 rfl (.inl ⟨by kernel_rfl, fun w hSw => by (obtain ⟨⟨q0, q1, q2, q3, q4, q5, q6, qt, qc, qm, qf⟩, ⟨s0, s1, s2, s3, s4⟩, p0, p1, p2, p3, p4, p5⟩ := HSEE.out _ hSw); go_simp; first | done | with_reducible rfl⟩) ?_
                refine tkC 3 rfl ?_
                refine tkC 4 rfl ?_
                refine tkB 5 rfl (.inl ⟨by kernel_rfl, fun w hSw => by (obtain ⟨⟨q0, q1, q2, q3, q4, q5, q6, qt, qc, qm, qf⟩, ⟨s0, s1, s2, s3, s4⟩, p0, p1, p2, p3, p4, p5⟩ := HSEE.out _ hSw); go_simp; first | done | with_reducible rfl⟩) ?_
                refine wpAnyH_ready (rs := [6]) (by kernel_rfl) (by simp) (AllReadyH.cons rfl (fun K hK => ?hcz7) AllReadyH.nil)
                go_simp
                (go_at_call 53; refine (HBG.out _ hHeld _ (by simp [HVK.out])).mono ?_; rintro e' w9 ⟨rfl, hb9⟩; have hk := hHeld.1.turned hb9; have hkt := hHeld.2.below hb9; (try dsimp only))
                refine hK.out _ _ (by (try dsimp only); (exact ⟨hk, hkt⟩)) ?_
                clear hHeld hK; intro hHeld
                refine tkC 7 rfl ?_
                refine tkB 8 rfl (.inl ⟨by kernel_rfl, fun w hSw => by (obtain ⟨⟨q0, q1, q2, q3, q4, q5, q6, qt, qc, qm, qf⟩, ⟨s0, s1, s2, s3, s4⟩, p0, p1, p2, p3, p4, p5⟩ := HSEE.out _ hSw); go_simp; first | done | with_reducible rfl⟩) ?_
                refine tkC 9 rfl ?_
                refine tkB 10 rfl (.inl ⟨by kernel_rfl, fun w hSw => by (obtain ⟨⟨q0, q1, q2, q3, q4, q5, q6, qt, qc, qm, qf⟩, ⟨s0, s1, s2, s3, s4⟩, p0, p1, p2, p3, p4, p5⟩ := HSEE.out _ hSw); go_simp; first | done | with_reducible rfl⟩) ?_
                refine tkC 11 rfl ?_
                refine tkB 12 rfl (.inl ⟨by kernel_rfl, fun w hSw => by (obtain ⟨⟨q0, q1, q2, q3, q4, q5, q6, qt, qc, qm, qf⟩, ⟨s0, s1, s2, s3, s4⟩, p0, p1, p2, p3, p4, p5⟩ := HSEE.out _ hSw); go_simp; first | done | with_reducible rfl⟩) ?_
                refine tkC 13 rfl ?_
                refine tkC 14 rfl ?_
                refine tkB 15 rfl (.inl ⟨by kernel_rfl, fun w hSw => by (obtain ⟨⟨q0, q1, q2, q3, q4, q5, q6, qt, qc, qm, qf⟩, ⟨s0, s1, s2, s3, s4⟩, p0, p1, p2, p3, p4, p5⟩ := HSEE.out _ hSw); go_simp; first | done | with_reducible rfl⟩) ?_
                refine tkC 16 rfl ?_
                refine tkB 17 rfl (.inl ⟨by kernel_rfl, fun w hSw => by (obtain ⟨⟨q0, q1, q2, q3, q4, q5, q6, qt, qc, qm, qf⟩, ⟨s0, s1, s2, s3, s4⟩, p0, p1, p2, p3, p4, p5⟩ := HSEE.out _ hSw); go_simp; first | done | with_reducible rfl⟩) ?_
                refine tkC 18 rfl ?_
                refine tkC 19 rfl ?_
                refine tkC 20 rfl ?_
                refine tkB 21 rfl (.inl ⟨by kernel_rfl, fun w hSw => by (obtain ⟨⟨q0, q1, q2, q3, q4, q5, q6, qt, qc, qm, qf⟩, ⟨s0, s1, s2, s3, s4⟩, p0, p1, p2, p3, p4, p5⟩ := HSEE.out _ hSw); go_simp; first | done | with_reducible rfl⟩) ?_
                refine tkC 22 rfl ?_
                refine wpAnyH_ready (rs := [23]) (by kernel_rfl) (by simp) (AllReadyH.cons rfl (fun K hK => ?hcz8) AllReadyH.nil)
                go_simp
                (go_at_call 51; refine (HIS.out _ hHeld).mono ?_; rintro e' w10 ⟨rfl, hI10, hT10⟩; have hk := hI10; have hkt := hHeld.2.trans hT10; (try dsimp only))
                refine hK.out _ _ (by (try dsimp only); (exact ⟨hk, hkt⟩)) ?_
                clear hHeld hK; intro hHeld
                refine tkC 24 rfl ?_
                refine wpAnyH_done (by kernel_rfl) ?_ _
                clear hHeld
                refine NoPanic.normal ?_
                dsimp only [Exit.then]
                (refine hMK _ _ ⟨?_, ?_, ?_, ?_, ?_, ?_, ?_, ?_, ?_, ?_, ?_, hk, hkt⟩ <;> kernel_rfl)
              case neg =>
                have HVK := hidep hvk
                refine wp_region_noPanic (wp_region_held_drew (S := (fun Z => FrI w0 V T (.slice a l.length cap) (.slice ca C.length cc) l C Bt Bl Bc Bb Bf Bm Z /\ Turned (fun b => b = Bm) X8 Z)) (by kernel_rfl) ?hSz9 (fun hHeld => ?hRz9))
                case hSz9 => ((try dsimp only); (exact ⟨HI8.out.turned ((Below.refl _ _).drew), (Turned.refl _ _).drew⟩))
                refine tkB 0 rfl (.inl ⟨by kernel_rfl, fun w hSw => by (obtain ⟨⟨q0, q1, q2, q3, q4, q5, q6, qt, qc, qm, qf⟩, ⟨s0, s1, s2, s3, s4⟩, p0, p1, p2, p3, p4, p5⟩ := HSEE.out _ hSw); go_simp; first | done | with_reducible rfl⟩) ?_
                refine tkC 1 rfl ?_
                refine tkB 2 rfl (.inl ⟨by kernel_rfl, fun w hSw => by (obtain ⟨⟨q0, q1, q2, q3, q4, q5, q6, qt, qc, qm, qf⟩, ⟨s0, s1, s2, s3, s4⟩, p0, p1, p2, p3, p4, p5⟩ := HSEE.out _ hSw); go_simp; first | done | with_reducible rfl⟩) ?_
                refine tkC 3 rfl ?_
                refine tkC 4 rfl ?_
                refine tkB 5 rfl (.inl ⟨by kernel_rfl, fun w hSw => by (obtain ⟨⟨q0, q1, q2, q3, q4, q5, q6, qt, qc, qm, qf⟩, ⟨s0, s1, s2, s3, s4⟩, p0, p1, p2, p3, p4, p5⟩ := HSEE.out _ hSw); go_simp; first | done | with_reducible rfl⟩) ?_
                refine wpAnyH_ready (rs := [6]) (by kernel_rfl) (by simp) (AllReadyH.cons rfl (fun K hK => ?hcz10) AllReadyH.nil)
                go_simp
                (go_at_call 53; refine (HBG.out _ hHeld _ (by simp [HVK.out])).mono ?_; rintro e' w9 ⟨rfl, hb9⟩; have hk := hHeld.1.turned hb9; have hkt := hHeld.2.below hb9; (try dsimp only))
                refine hK.out _ _ (by (try dsimp only); (exact ⟨hk, hkt⟩)) ?_
                clear hHeld hK; intro hHeld
                refine tkC 7 rfl ?_
                refine tkB 8 rfl (.inl ⟨by kernel_rfl, fun w hSw => by (obtain ⟨⟨q0, q1, q2, q3, q4, q5, q6, qt, qc, qm, qf⟩, ⟨s0, s1, s2, s3, s4⟩, p0, p1, p2, p3, p4, p5⟩ := HSEE.out _ hSw); go_simp; first | done | with_reducible rfl⟩) ?_
                refine tkC 9 rfl ?_
                refine tkB 10 rfl (.inl ⟨by kernel_rfl, fun w hSw => by (obtain ⟨⟨q0, q1, q2, q3, q4, q5, q6, qt, qc, qm, qf⟩, ⟨s0, s1, s2, s3, s4⟩, p0, p1, p2, p3, p4, p5⟩ := HSEE.out _ hSw); go_simp; first | done | with_reducible rfl⟩) ?_
                refine tkC 11 rfl ?_
                refine tkB 12 rfl (.inl ⟨by kernel_rfl, fun w hSw => by (obtain ⟨⟨q0, q1, q2, q3, q4, q5, q6, qt, qc, qm, qf⟩, ⟨s0, s1, s2, s3, s4⟩, p0, p1, p2, p3, p4, p5⟩ := HSEE.out _ hSw); go_simp; first | done | with_reducible rfl⟩) ?_
                refine tkC 13 rfl ?_
                refine tkC 14 rfl ?_
                refine tkB 15 rfl (.inl ⟨by kernel_rfl, fun w hSw => by (obtain ⟨⟨q0, q1, q2, q3, q4, q5, q6, qt, qc, qm, qf⟩, ⟨s0, s1, s2, s3, s4⟩, p0, p1, p2, p3, p4, p5⟩ := HSEE.out _ hSw); go_simp; first | done | with_reducible rfl⟩) ?_
                refine tkC 16 rfl ?_
                refine tkB 17 rfl (.inl ⟨by kernel_rfl, fun w hSw => by (obtain ⟨⟨q0, q1, q2, q3, q4, q5, q6, qt, qc, qm, qf⟩, ⟨s0, s1, s2, s3, s4⟩, p0, p1, p2, p3, p4, p5⟩ := HSEE.out _ hSw); go_simp; first | done | with_reducible rfl⟩) ?_
                refine tkC 18 rfl ?_
                refine tkC 19 rfl ?_
                refine tkC 20 rfl ?_
                refine tkB 21 rfl (.inl ⟨by kernel_rfl, fun w hSw => by (obtain ⟨⟨q0, q1, q2, q3, q4, q5, q6, qt, qc, qm, qf⟩, ⟨s0, s1, s2, s3, s4⟩, p0, p1, p2, p3, p4, p5⟩ := HSEE.out _ hSw); go_simp; first | done | with_reducible rfl⟩) ?_
                refine tkC 22 rfl ?_
                refine wpAnyH_ready (rs := [23]) (by kernel_rfl) (by simp) (AllReadyH.cons rfl (fun K hK => ?hcz11) AllReadyH.nil)
                go_simp
                (go_at_call 51; refine (HIS.out _ hHeld).mono ?_; rintro e' w10 ⟨rfl, hI10, hT10⟩; have hk := hI10; have hkt := hHeld.2.trans hT10; (try dsimp only))
                refine hK.out _ _ (by (try dsimp only); (exact ⟨hk, hkt⟩)) ?_
                clear hHeld hK; intro hHeld
                refine tkC 24 rfl ?_
                refine wpAnyH_done (by kernel_rfl) ?_ _
                clear hHeld
                refine NoPanic.normal ?_
                dsimp only [Exit.then]
                (refine hMK _ _ ⟨?_, ?_, ?_, ?_, ?_, ?_, ?_, ?_, ?_, ?_, ?_, hk, hkt⟩ <;> kernel_rfl)
          rintro ⟨tm9, ds⟩ W9 ⟨hts, hds, e1, e2, e3, e5, e6, e29, e30, e31, e59, hk, hkt⟩
          simp only at hts hds e1 e2 e3 e5 e6 e29 e30 e31 e59
          subst hds
          apply_assumption
          rw [frame63 tm9 [] hts, e1, e2, e3, e5, e6, e29, e30, e31, e59]
          clear hts e1 e2 e3 e5 e6 e29 e30 e31 e59
          obtain ⟨tb, htb⟩ : ∃ x, x = (bb && rb2) := ⟨_, rfl⟩
          rw [<- htb] at HTS HANY ⊢
          clear htb hme
          cases tb with
          | false =>
            have HT2 := hidep (HTS.out.trans (by rw [HG.out, Bool.false_or]))
            go_wp2
            refine ⟨LoopI.mk rfl ⟨rfl, rfl, rfl, rfl, rfl, rfl, rfl, rfl, j + 1, by omega, by show Value.int _ _ = _; go_num, HT2, hk, HT8.out.trans hkt⟩, ?_⟩
            show L.length - _ < L.length - _
            simp [natI]; omega
          | true =>
            have HE := hidep (show RES = true from by rw [HE2.out]; exact HANY.out rfl)
            go_wp2
            go_ret
            exact ⟨zqb (congrArg Value.bool HE.out.symm), hk, ((Turned.of_below HBX.out).below HB1.out).trans (HT8.out.trans hkt)⟩
        · have hji : ¬ (j : Int) < (L.length : Int) := by omega
          have hje : j = L.length := by omega
          have HE := hidep (show RES = false from by rw [HE2.out, <- HG.out, hje, List.take_length])
          obtain ⟨s0, s1, s2, s3, s4⟩ := box5 HSW.out
          have hsi := HIW.out.sight
          obtain ⟨q0, q1, q2, q3, q4, q5, q6, qt, qc, qm, qf⟩ := hsi
          obtain ⟨ks, g, hmap, hks1, hks2, hks3, hks4⟩ := HIW.out.mp
          have hsm := ks_small (by rw [<- HN.out]; exact hl) (by rw [<- HM.out]; exact hCl) hks1 hks2
          have HKS := hidep (And.intro hks1 (And.intro hks2 (And.intro hks3 hks4)))
          have HOKS := hidep (show zq80 (i, k, st) from ⟨by show i <= 1000000; omega, by show k <= 1000000; omega, HIN.out.2.2⟩)
          clear hks1 hks2 hks3 hks4
          go_wp2_with (at_mapUpdate; refine wpList_mapUpdate_at rfl spotK _ _ _ rfl hmap rfl hsm (i, k, st) HOKS.out (by kernel_rfl) (.bool true) rfl ?_; intro w5 r1 r2 r3)
          go_ret
          refine ⟨zqb (congrArg Value.bool HE.out.symm), HIW.out.fail HIN.out (HRES.out.symm.trans HE.out) HKS.out.1 HKS.out.2.1 HKS.out.2.2.1 HKS.out.2.2.2 r1 r2 r3, ?_⟩
          exact (((Turned.of_below HBX.out).below HB1.out).trans (HTW.out)).trans (Turned.of_grown r3 rfl)

end Go.Proofs.YtcfjepcflanjbaaGreat
