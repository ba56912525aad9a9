/- Journal: the arguments of a law, opened: a script of steps, a list of bytes. -/
import Derived.Test.YtipbkdlekanlmaaGreatDoorZr31
import Derived.Test.YtipbkdlekanlmaaGreatDoorZm01
import Derived.Deep.Slices
import Derived.Test.YtipbkdlekanlmaaGreatDoorZr14
import Derived.Test.YtipbkdlekanlmaaGreatDoorZr15
import Derived.Test.YtipbkdlekanlmaaGreatDoorZr17
import Derived.Test.YtipbkdlekanlmaaGreatDoorZr20
namespace Go.Proofs.YtipbkdlekanlmaaGreatDoor
open Go.ChangeShapes Go.WideShapes Go.ChangeAt Go.RowKit Go.Lab Go.Disk Go.Jn
/-- A step of a script. -/
structure StepZ where
  kind : Int
  i : Int
  bit : Int
  size : Int
  fill : Int
  picks : List Int
def i64r (n : Int) : Prop := -9223372036854775808 ≤ n ∧ n ≤ 9223372036854775807
def StepOk (o : StepZ) : Prop := i64r o.kind ∧ i64r o.i ∧ i64r o.bit ∧ i64r o.size ∧ 0 ≤ o.fill ∧ o.fill < 256
def stepC (o : StepZ) (u : Value) : List Value := [.int .i64 o.kind, .int .i64 o.i, .int .i64 o.bit, .int .i64 o.size, .int .u8 o.fill, u]
def stepsC : List StepZ → List Value → List Value
  | o :: l, u :: us => stepC o u ++ stepsC l us
  | _, _ => []
theorem stepsC_len : ∀ (l : List StepZ) (us : List Value), us.length = l.length → (stepsC l us).length = l.length * 6
  | [], [], _ => rfl
  | [], _ :: _, h => by simp at h
  | _ :: _, [], h => by simp at h
  | e :: l, u :: us, h => by
    have := stepsC_len l us (by simpa using h)
    simp [stepsC, stepC, this]; omega
theorem stepsC_get : ∀ (l : List StepZ) (us : List Value) (i j : Nat) (h : i < l.length) (h' : i < us.length), j < 6 → (stepsC l us)[i * 6 + j]? = (stepC l[i] us[i])[j]?
  | [], _, _, _, h, _, _ => by simp at h
  | _ :: _, [], _, _, _, h', _ => by simp at h'
  | a :: l, b :: us, 0, j, _, _, hj => by
    rw [stepsC, Nat.zero_mul, Nat.zero_add, List.getElem?_append_left (by simp [stepC]; omega)]
    rfl
  | a :: l, b :: us, i + 1, j, h, h', hj => by
    have := stepsC_get l us i j (by simpa using h) (by simpa using h') hj
    rw [stepsC, List.getElem?_append_right (by simp [stepC]; omega)]
    simp only [stepC, List.length_cons, List.length_nil, List.getElem_cons_succ]
    rw [show (i + 1) * 6 + j - (0 + 1 + 1 + 1 + 1 + 1 + 1) = i * 6 + j from by omega]
    exact this
/-- A slice of steps: the cells, and each list of picks in its own slice. -/
def StepsAt (w : World) (v : Value) (l : List StepZ) : Prop :=
  ∃ us : List Value, us.length = l.length ∧ Rd w (fun _ => True) 6 v l.length (stepsC l us) ∧ ∀ i (h : i < l.length) (h' : i < us.length), IntsAt w us[i] l[i].picks ∧ StepOk l[i]
theorem StepsAt.below {w w' : World} {v : Value} {l : List StepZ} (h : StepsAt w v l) (hb : Below w.heap.size w w') : StepsAt w' v l := by
  obtain ⟨us, hl, hr, hs⟩ := h
  exact ⟨us, hl, hr.below hb, fun i a b => ⟨(hs i a b).1.below hb, (hs i a b).2⟩⟩
theorem StepsAt.form {w : World} {v : Value} {l : List StepZ} (h : StepsAt w v l) : ∃ a cap, v = .slice a l.length cap ∧ l.length ≤ cap ∧ cap ≤ maxLen := by
  obtain ⟨us, _, hr, _⟩ := h
  exact hr.form
/-- A step of the script, as it reads. -/
theorem StepsAt.at {w : World} {a : Option Addr} {c : Nat} {l : List StepZ} (h : StepsAt w (.slice a l.length c) l) {k : Nat} (hk : k < l.length) :
    ∃ b off u, a = some ⟨b, off, none⟩ ∧ b < w.heap.size ∧ w.rangeAt b (off + k * 6) (stepC l[k] u) ∧ IntsAt w u l[k].picks ∧ StepOk l[k] := by
  obtain ⟨us, hl, hr, hs⟩ := h
  obtain ⟨b, off, e, hb, hc⟩ := Rd.at hr (by omega)
  have hk' : k < us.length := by omega
  refine ⟨b, off, us[k], e, hb, fun j x hx => ?_, hs k hk hk'⟩
  have hj : j < 6 := by
    have := (List.getElem?_eq_some_iff.1 hx).1
    simpa [stepC] using this
  rw [Nat.add_assoc]
  apply hc
  rw [stepsC_get l us k j hk hk' hj]
  exact hx
section
variable {H : Type} {enc : TypeId × Value → H} {W : World} {sp : Nat → Bool} {held : Bool}
theorem rd_of_cells {v : Value} {k : Nat} {a : Addr} {len cap : Nat} {cs : List Value} (hv : v = .slice (some a) len cap) (hl : len ≤ cap) (hm : cap ≤ maxLen) (hlen : cs.length = len * k)
    (hblk : 0 < cap → ∃ u, W.cell? a = some u) (hcell : ∀ j u, cs[j]? = some u → W.cell? (a.add j) = some u) : Rd W (fun _ => True) k v len cs := by
  refine ⟨hlen, some a, cap, hv, hl, hm, fun e => (by cases e), fun ad e h0 => ?_⟩
  injection e with e
  subst e
  obtain ⟨b, off, spot⟩ := a
  obtain ⟨u0, hc0⟩ := hblk h0
  have hspot : spot = none := by simpa using World.cell?_spot hc0
  subst hspot
  cases hh : W.heap[b]? with
  | none => simp [World.cell?, hh] at hc0
  | some o =>
    have hx0 := hc0
    unfold World.cell? at hx0
    simp only [hh] at hx0
    split at hx0
    · rename_i cur t fz hoo
      injection hoo with hoo
      subst hoo
      refine ⟨rfl, cur, t, fz, trivial, rfl, fun j u hu => ?_⟩
      have h1 := hcell j u hu
      rw [add_plain] at h1
      simpa [World.cell?, hh] using h1
    · cases hx0
theorem ints_of_trod {fuel : Nat} {v : Value} {x : DataW H × List MemPlace} (h : DataW.trod enc Tryz.prog W 0 (fun _ => true) held fuel 51 [v] = some x) : ∃ l : List Int, IntsAt W v l := by
  rcases open_ints Tryz.underlying51 Tryz.underlying3 cellsInt h with ⟨hcs, hx⟩ | ⟨a, len, cap, zs, hcs, _, hl, hm, hz, hx, hcell, hwz⟩
  · simp at hcs
    subst hcs
    exact ⟨[], Rd.nil _ _ _, fun x hx => by simp at hx⟩
  · simp at hcs
    simp only [if_true] at hz
    refine ⟨zs.take len, ?_, fun x hx => i64_rng (hwz x (List.mem_of_mem_take hx))⟩
    have hlen : (zs.take len).length = len := by rw [List.length_take]; omega
    have := rd_of_cells (W := W) (k := 1) (cs := intsC (zs.take len)) hcs hl hm (by simp [intsC]; omega) (fun h0 => ⟨_, by simpa [Addr.add] using hcell 0 (by omega)⟩) (fun j u hu => ?_)
    · rw [hlen]; exact this
    · have hj : j < len := by
        have := (List.getElem?_eq_some_iff.1 hu).1
        simp [intsC] at this
        omega
      rw [hcell j (by omega)]
      simp [intsC, hj] at hu
      obtain ⟨x, hx, rfl⟩ := hu
      rw [List.getD, hx]; rfl
set_option maxRecDepth 100000 in
theorem open_ints_arg {W : World} {base : Nat} {v : Value} {d : DataW H} {p : List MemPlace} (hok : Value.okWide Tryz.prog W .any base 51 v) (h : DataW.Trod enc Tryz.prog W 0 (fun _ => true) held 51 v d p) : ∃ l : List Int, IntsAt W v l := by
  obtain ⟨a0, len, cap, rfl⟩ := okWide_slice Tryz.underlying51 hok
  obtain ⟨fuel, hf⟩ := h
  exact ints_of_trod (by simpa [Value.cells] using hf)
theorem u8_rng {x : Int} (h : (Lit.int .u8 x).wf = true) : 0 ≤ x ∧ x < 256 := by
  have h2 : 0 ≤ x ∧ x ≤ 255 := by simpa [Lit.wf, IntKind.min, IntKind.max, IntKind.signed, IntKind.bits] using h
  omega
instance : Inhabited StepZ := ⟨⟨0, 0, 0, 0, 0, []⟩⟩
set_option maxRecDepth 100000 in
theorem steps_of_trod {fuel : Nat} {v : Value} {x : DataW H × List MemPlace} (h : DataW.trod enc Tryz.prog W 0 (fun _ => true) held fuel 40 [v] = some x) : ∃ l : List StepZ, StepsAt W v l := by
  rcases Go.Deep.open_slice Tryz.underlying40 h with ⟨hcs, hx⟩ | ⟨a, len, cap, m, n, D, Pl, hcs, _, hl, hm, hmm, _, hx⟩
  · simp at hcs
    subst hcs
    exact ⟨[], [], rfl, Rd.nil _ _ _, fun i h => by simp at h⟩
  · simp at hcs
    simp only [if_true] at hmm
    subst hmm
    have ce : Tryz.prog.cellsOf 56 = 6 := by kernel_rfl
    have c0 : Tryz.prog.cellsOf 3 = 1 := cellsInt
    have c3 : Tryz.prog.cellsOf 5 = 1 := by kernel_rfl
    have c4 : Tryz.prog.cellsOf 51 = 1 := by kernel_rfl
    have each : ∀ i, i < m → ∃ q : StepZ × Value, (∀ (j : Nat) (x : Value), (stepC q.1 q.2)[j]? = some x → W.cell? (a.add (i * 6 + j)) = some x) ∧ IntsAt W q.2 q.1.picks ∧ StepOk q.1 := by
      intro i hi
      obtain ⟨cs', h1, h2⟩ := hx i hi
      rw [ce] at h1
      obtain ⟨_, hlen, hcell⟩ := World.cells?_some h1
      obtain ⟨xs, k, hk, hxy, _, hxl, hf⟩ := DataW.trod_struct Tryz.underlying56 h2
      match xs, hxl, cs', hlen with
      | [y0, y1, y2, y3, y4, y5], _, [v0, v1, v2, v3, v4, v5], _ =>
        have g0 := hf 0 _ rfl
        have g1 := hf 1 _ rfl
        have g2 := hf 2 _ rfl
        have g3 := hf 3 _ rfl
        have g4 := hf 4 _ rfl
        have g5 := hf 5 _ rfl
        simp [c0, c3, c4] at g0 g1 g2 g3 g4 g5
        obtain ⟨n0, e0, _, w0⟩ := DataW.trod_int Tryz.underlying3 g0
        obtain ⟨n1, e1, _, w1⟩ := DataW.trod_int Tryz.underlying3 g1
        obtain ⟨n2, e2, _, w2⟩ := DataW.trod_int Tryz.underlying3 g2
        obtain ⟨n3, e3, _, w3⟩ := DataW.trod_int Tryz.underlying3 g3
        obtain ⟨n4, e4, _, w4⟩ := DataW.trod_int Tryz.underlying5 g4
        obtain ⟨l5, i5⟩ := ints_of_trod g5
        simp at e0 e1 e2 e3 e4
        subst e0; subst e1; subst e2; subst e3; subst e4
        refine ⟨(⟨n0, n1, n2, n3, n4, l5⟩, v5), fun j x hx => ?_, i5, i64_rng w0, i64_rng w1, i64_rng w2, i64_rng w3, u8_rng w4⟩
        have hj : j < 6 := by
          have := (List.getElem?_eq_some_iff.1 hx).1
          simpa [stepC] using this
        have e := hcell j (by omega)
        rw [Go.Deep.add_add] at e
        rw [e]
        simpa [stepC] using hx
    obtain ⟨q, hq⟩ := Go.Deep.choose_lt each
    refine ⟨(List.range len).map fun i => (q i).1, (List.range len).map fun i => (q i).2, by simp, ?_, fun i h1 h2 => ?_⟩
    · have hg : ∀ j u, (stepsC ((List.range len).map fun i => (q i).1) ((List.range len).map fun i => (q i).2))[j]? = some u → W.cell? (a.add j) = some u := by
        intro j u hu
        have hj : j < len * 6 := by
          have := (List.getElem?_eq_some_iff.1 hu).1
          rw [stepsC_len _ _ (by simp)] at this
          simpa using this
        have hi : j / 6 < len := by omega
        have hr : j % 6 < 6 := by omega
        have hdm : j = j / 6 * 6 + j % 6 := by omega
        have G := stepsC_get ((List.range len).map fun i => (q i).1) ((List.range len).map fun i => (q i).2) (j / 6) (j % 6) (by simpa using hi) (by simpa using hi) hr
        simp only [List.getElem_map, List.getElem_range] at G
        rw [hdm] at hu ⊢
        rw [G] at hu
        exact (hq (j / 6) (by omega)).1 _ u hu
      have := rd_of_cells (W := W) (k := 6) hcs hl hm (by rw [stepsC_len _ _ (by simp)]; simp) (fun h0 => ⟨_, by simpa [Addr.add] using (hq 0 (by omega)).1 0 _ rfl⟩) hg
      simpa using this
    · have hi : i < len := by simpa using h1
      simpa using (hq i (by omega)).2
set_option maxRecDepth 100000 in
theorem open_steps_arg {W : World} {base : Nat} {v : Value} {d : DataW H} {p : List MemPlace} (hok : Value.okWide Tryz.prog W .any base 40 v) (h : DataW.Trod enc Tryz.prog W 0 (fun _ => true) held 40 v d p) : ∃ l : List StepZ, StepsAt W v l := by
  obtain ⟨a0, len, cap, rfl⟩ := okWide_slice Tryz.underlying40 hok
  obtain ⟨fuel, hf⟩ := h
  exact steps_of_trod (by simpa [Value.cells] using hf)
set_option maxRecDepth 100000 in
theorem bytes_of_trod {fuel : Nat} {v : Value} {x : DataW H × List MemPlace} (h : DataW.trod enc Tryz.prog W 0 (fun _ => true) held fuel 81 [v] = some x) : ∃ l : List Int, BytR W v l := by
  rcases Go.Deep.open_slice Tryz.underlying81 h with ⟨hcs, hx⟩ | ⟨a, len, cap, m, n, D, Pl, hcs, _, hl, hm, hmm, _, hx⟩
  · simp at hcs
    subst hcs
    exact ⟨[], Rd.nil _ _ _, fun x hx => by cases hx⟩
  · simp at hcs
    simp only [if_true] at hmm
    subst hmm
    have ce : Tryz.prog.cellsOf 5 = 1 := by kernel_rfl
    have each : ∀ i, i < m → ∃ q : Int, W.cell? (a.add i) = some (.int .u8 q) ∧ 0 ≤ q ∧ q < 256 := by
      intro i hi
      obtain ⟨cs', h1, h2⟩ := hx i hi
      rw [ce] at h1
      obtain ⟨_, hlen, hcell⟩ := World.cells?_some h1
      obtain ⟨n0, e0, _, w0⟩ := DataW.trod_int Tryz.underlying5 h2
      subst e0
      have e := hcell 0 (by omega)
      rw [Go.Deep.add_add] at e
      exact ⟨n0, by simpa using e, u8_rng w0⟩
    obtain ⟨q, hq⟩ := Go.Deep.choose_lt each
    refine ⟨(List.range len).map q, ?_, fun x hx => ?_⟩
    · have := rd_of_cells (W := W) (k := 1) (cs := byC ((List.range len).map q)) hcs hl hm (by simp [byC]) (fun h0 => ⟨_, by simpa [Addr.add] using (hq 0 (by omega)).1⟩) (fun j u hu => by
        have hj : j < len := by
          have := (List.getElem?_eq_some_iff.1 hu).1
          simpa [byC] using this
        simp [byC, hj] at hu
        rw [← hu]
        exact (hq j (by omega)).1)
      simpa using this
    · obtain ⟨i, hi, rfl⟩ := List.mem_map.1 hx
      have := List.mem_range.1 hi
      exact (hq i (by omega)).2
set_option maxRecDepth 100000 in
theorem open_bytes_arg {W : World} {base : Nat} {v : Value} {d : DataW H} {p : List MemPlace} (hok : Value.okWide Tryz.prog W .any base 81 v) (h : DataW.Trod enc Tryz.prog W 0 (fun _ => true) held 81 v d p) : ∃ l : List Int, BytR W v l := by
  obtain ⟨a0, len, cap, rfl⟩ := okWide_slice Tryz.underlying81 hok
  obtain ⟨fuel, hf⟩ := h
  exact bytes_of_trod (by simpa [Value.cells] using hf)
end
end Go.Proofs.YtipbkdlekanlmaaGreatDoor
/- Journal: few (a script's length is at most 30). -/
namespace Go.Proofs.YtipbkdlekanlmaaGreatDoor
open Go.RowKit Go.Lab Go.Disk Go.Jn
attribute [local go_sem] Oper.semAt_some
set_option maxRecDepth 100000
theorem zero_step (w : World) : (zeroValue 56).run Tryz.prog w = .ok (.agg #[.int .i64 0, .int .i64 0, .int .i64 0, .int .i64 0, .int .u8 0, .slice none 0 0]) w := by kernel_rfl
theorem row_step : (∃ d, Tryz.prog.underlying 56 = some d ∧ d.isRow = true) ∧ (Tryz.prog.info? 56).map (·.size) = some 6 := ⟨under_row (by kernel_rfl), by kernel_rfl⟩
theorem step_cells {W : World} {b : Nat} {o : StepZ} {u : Value} {t : TypeId} {fz : Nat × Nat} (h : W.heap[b]? = some (.cells (stepC o u).toArray t fz)) : W.cell? ⟨b, 0, none⟩ = some (.int .i64 o.kind) ∧ W.cell? ⟨b, 1, none⟩ = some (.int .i64 o.i) ∧ W.cell? ⟨b, 2, none⟩ = some (.int .i64 o.bit) ∧ W.cell? ⟨b, 3, none⟩ = some (.int .i64 o.size) ∧ W.cell? ⟨b, 4, none⟩ = some (.int .u8 o.fill) ∧ W.cell? ⟨b, 5, none⟩ = some u :=
  ⟨by simp [World.cell?, h, stepC], by simp [World.cell?, h, stepC], by simp [World.cell?, h, stepC], by simp [World.cell?, h, stepC], by simp [World.cell?, h, stepC], by simp [World.cell?, h, stepC]⟩
theorem text_size (s f : Int) : (stepText s f).size ≤ 8100 := by
  unfold stepText
  rw [← nums_len, nums_str (fillB_rng _ _), fillB_len]
  unfold sizeZ
  omega
/-- Is a script short enough? -/
def fewZ (L : List StepZ) : Bool := decide (∀ x ∈ L, x.picks.length ≤ 200) && decide (L.length ≤ 30)
def FeI (k : Nat) (L : List StepZ) (w : World) (iv : Value) (wr : World) : Prop := ∃ i : Nat, i ≤ k ∧ iv = .int .i64 (i : Nat) ∧ (∀ x ∈ L.take i, x.picks.length ≤ 200) ∧ Below w.heap.size w wr
set_option maxHeartbeats 4000000 in
theorem few_any (sv : Value) (L : List StepZ) (w : World) (hL : StepsAt w sv L) : Calls Tryz.prog 29 #[sv] w fun e w' => e = .returned (.bool (fewZ L)) ∧ Below w.heap.size w w' := by
  obtain ⟨sa, sc, rfl, hsl, hsc⟩ := hL.form
  have HL := hidep hL
  unfold maxLen at hsc
  clear hL
  obtain ⟨k, hkd⟩ : ∃ k, k = L.length := ⟨_, rfl⟩
  rw [← hkd] at hsl ⊢
  have HKD := hidep hkd
  clear hkd
  go_enter Tryz.func29, Tryz.ntmps29
  go_upto_region 2 with (fail)
  refine wp_loop (LoopI 19 (fun tm ds wr => (slot tm 0) = .slice sa k sc ∧ (slot tm 5) = .slice sa k sc ∧ (slot tm 6) = .int .i64 (k : Nat) ∧ ds = [] ∧ FeI k L w (slot tm 7) wr)) (fun a' wr => k - natI (a'.tmps.getD 7 undef)) ?mainStart ?mainRound
  case' mainStart => refine LoopI.mk rfl ?_
  case' mainRound => (rintro ⟨t, ds⟩ wr ⟨hts, hrel⟩; dsimp only at hts hrel; rw [frame19 t ds hts])
  case mainStart => exact ⟨rfl, rfl, rfl, rfl, 0, Nat.zero_le _, rfl, by simp, Below.refl _ _⟩
  obtain ⟨e0, e5, e6, hds, i, hi, e7, hall, hbw⟩ := hrel
  subst hds
  rw [e0, e5, e6, e7]
  clear e0 e5 e6 e7 hts
  by_cases hik : i < k
  · have hiki : (i : Int) < (k : Int) := by omega
    have hi0 : (0 : Int) ≤ (i : Int) := by omega
    have hiL : i < L.length := by rw [← HKD.out]; exact hik
    have hsteps := HL.out.below hbw
    rw [show k = L.length from HKD.out] at hiki hik hsl ⊢
    obtain ⟨g, o, u, rfl, hg, hrg, hpk, hok⟩ := hsteps.at hiL
    obtain ⟨pa, pc, rfl, hpl1, hpl2⟩ := hpk.1.form
    obtain ⟨st, hst⟩ : ∃ st, st = L[i] := ⟨_, rfl⟩
    rw [← hst] at hrg hok hpl1
    obtain ⟨pl, hpl⟩ : ∃ pl, pl = st.picks.length := ⟨_, rfl⟩
    rw [← hpl] at hrg hpl1
    obtain ⟨cs, hcs⟩ : ∃ cs, cs = stepC st (.slice pa pl pc) := ⟨_, rfl⟩
    rw [← hcs] at hrg
    have hcs6 : cs.length = 6 := by rw [hcs]; rfl
    have hone : cs.toArray.all (·.oneCell') = true := by rw [hcs]; simp [stepC, Value.oneCell']
    unfold maxLen at hpl2
    have HALL := hidep (show (200 < pl → fewZ L = false) ∧ (¬ 200 < pl → ∀ x ∈ L.take (i + 1), x.picks.length ≤ 200) from by
      refine ⟨fun h => ?_, fun h x hx => ?_⟩
      · unfold fewZ
        rw [decide_eq_false, Bool.false_and]
        intro h2
        have := h2 L[i] (List.getElem_mem hiL)
        rw [← hst, ← hpl] at this
        omega
      · rw [List.take_add_one, List.getElem?_eq_getElem hiL, List.mem_append] at hx
        rcases hx with hx | hx
        · exact hall x hx
        · have hx2 : x = L[i] := by simpa using hx
          rw [hx2, ← hst, ← hpl]
          omega)
    clear hst hpl hpk hsteps hall
    go_upto_region 3 with (fail)
    refine wp_region_lit ?_
    refine wpList_value rfl (v := .pointer (some ⟨g, o + i * 6, none⟩)) (w' := wr) (by
      have e : ∀ ev : Operand → Value, ev (.tmp 5) = .slice (some ⟨g, o, none⟩) L.length sc → ev (.tmp 7) = .int .i64 (i : Int) → (execOp ev ⟨some 9, .indexAddr 40 (.tmp 5) (.tmp 7), 0, "", #[], none⟩).run Tryz.prog wr = .ok (.value (.pointer (some ⟨g, o + i * 6, none⟩))) wr := fun ev ha hc => by
        go_simp
      exact e _ (by kernel_rfl) (by kernel_rfl)) ?_
    refine wpList_load_mid rfl 56 _ rfl g (o + i * 6) (by kernel_rfl) cs _ hrg row_step.1.choose_spec.1 row_step.1.choose_spec.2 (by rw [hcs6]; exact row_step.2) ?_
    refine wpList_alloc_row zero_step _ rfl rfl ?_
    refine wpList_store_last (t := 56) (c' := cs.toArray) wr (by rw [List.size_toArray, hcs6]; exact row_step.2) (by simp [hcs6]) hone rfl _ _ rfl (by kernel_rfl) (by kernel_rfl) ?_
    refine wpList_nil ?_
    apply_assumption
    refine wp_abs (fun X => X.heap[wr.heap.size]? = some (.cells cs.toArray 56) ∧ Below wr.heap.size wr X) ⟨heap_alloc_new _ _, (Below.refl _ _).alloc (Nat.le_refl _) _⟩ ?_
    rintro X ⟨hqE, hbX⟩
    obtain ⟨E, hE⟩ : ∃ E, E = wr.heap.size := ⟨_, rfl⟩
    rw [← hE] at hqE
    refine wp_cutA 19 (fun tm ds => ds = [] ∧ slot tm 0 = .slice (some ⟨g, o, none⟩) L.length sc ∧ slot tm 4 = .pointer (some ⟨E, 0, none⟩) ∧ slot tm 5 = .slice (some ⟨g, o, none⟩) L.length sc ∧ slot tm 6 = .int .i64 (L.length : Nat) ∧ slot tm 7 = .int .i64 (i : Nat)) (by kernel_rfl) (by exact ⟨by kernel_rfl, by kernel_rfl, by rw [hE]; kernel_rfl, by kernel_rfl, by kernel_rfl, by kernel_rfl⟩) ?_
    rintro tA dA h19 ⟨rfl, e0, e4, e5, e6, e7⟩
    rw [frame19 tA [] h19, e0, e4, e5, e6, e7]
    rw [hcs] at hqE
    obtain ⟨c0, c1, c2, c3, c4, c5⟩ := step_cells hqE
    have HB := hidep (hbw.trans (hbX.mono hbw.size))
    clear h19 e0 e4 e5 e6 e7 hrg hg hE hcs hqE hbX hbw c0 c1 c2 c3 c4
    by_cases hp : 200 < pl
    · have g1 : (pl : Int) > 200 := by omega
      go_wp2
      go_ret
      exact ⟨by rw [HALL.out.1 hp]; rfl, HB.out⟩
    · have g1 : ¬ (pl : Int) > 200 := by omega
      go_wp2
      refine ⟨LoopI.mk rfl ⟨rfl, rfl, rfl, rfl, i + 1, by omega, by show Value.int _ _ = _; go_num, HALL.out.2 hp, HB.out⟩, ?_⟩
      show L.length - _ < L.length - _
      simp [natI]; omega
  · have hiki : ¬ (i : Int) < (k : Int) := by omega
    have hin : i = k := by omega
    have hall2 : decide (∀ x ∈ L, x.picks.length ≤ 200) = true := by
      rw [hin, HKD.out, List.take_length] at hall
      exact decide_eq_true hall
    have HALL := hidep (show fewZ L = decide (k ≤ 30) from by
      unfold fewZ
      rw [hall2, Bool.true_and, HKD.out])
    clear hall hall2 hin
    by_cases h30 : k ≤ 30
    · have g1 : (k : Int) ≤ 30 := by omega
      go_wp2
      go_ret
      exact ⟨by rw [HALL.out, decide_eq_true h30]; rfl, hbw⟩
    · have g1 : ¬ (k : Int) ≤ 30 := by omega
      go_wp2
      go_ret
      exact ⟨by rw [HALL.out, decide_eq_false h30]; rfl, hbw⟩
end Go.Proofs.YtipbkdlekanlmaaGreatDoor
