/- Journal: the arguments of a law, opened: a script of steps, a list of bytes. -/
import Derived.Test.YtipbkdlekanlmaaDoorJs24
import Derived.Test.YtipbkdlekanlmaaDoorJg01
import Derived.Deep.Slices
namespace Go.Proofs.YtipbkdlekanlmaaDoor
open Go.ChangeShapes Go.WideShapes Go.ChangeAt Go.RowKit Go.Lab Go.Disk Go.Jn
/-- A step of a script. -/
structure StepZ where
  kind : Int
  i : Int
  bit : Int
  size : Int
  fill : Int
  picks : List Int
def i64r (n : Int) : Prop := -9223372036854775808 ≤ n ∧ n ≤ 9223372036854775807
def StepOk (o : StepZ) : Prop := i64r o.kind ∧ i64r o.i ∧ i64r o.bit ∧ i64r o.size ∧ 0 ≤ o.fill ∧ o.fill < 256
def stepC (o : StepZ) (u : Value) : List Value := [.int .i64 o.kind, .int .i64 o.i, .int .i64 o.bit, .int .i64 o.size, .int .u8 o.fill, u]
def stepsC : List StepZ → List Value → List Value
  | o :: l, u :: us => stepC o u ++ stepsC l us
  | _, _ => []
theorem stepsC_len : ∀ (l : List StepZ) (us : List Value), us.length = l.length → (stepsC l us).length = l.length * 6
  | [], [], _ => rfl
  | [], _ :: _, h => by simp at h
  | _ :: _, [], h => by simp at h
  | e :: l, u :: us, h => by
    have := stepsC_len l us (by simpa using h)
    simp [stepsC, stepC, this]; omega
theorem stepsC_get : ∀ (l : List StepZ) (us : List Value) (i j : Nat) (h : i < l.length) (h' : i < us.length), j < 6 → (stepsC l us)[i * 6 + j]? = (stepC l[i] us[i])[j]?
  | [], _, _, _, h, _, _ => by simp at h
  | _ :: _, [], _, _, _, h', _ => by simp at h'
  | a :: l, b :: us, 0, j, _, _, hj => by
    rw [stepsC, Nat.zero_mul, Nat.zero_add, List.getElem?_append_left (by simp [stepC]; omega)]
    rfl
  | a :: l, b :: us, i + 1, j, h, h', hj => by
    have := stepsC_get l us i j (by simpa using h) (by simpa using h') hj
    rw [stepsC, List.getElem?_append_right (by simp [stepC]; omega)]
    simp only [stepC, List.length_cons, List.length_nil, List.getElem_cons_succ]
    rw [show (i + 1) * 6 + j - (0 + 1 + 1 + 1 + 1 + 1 + 1) = i * 6 + j from by omega]
    exact this
/-- A slice of steps: the cells, and each list of picks in its own slice. -/
def StepsAt (w : World) (v : Value) (l : List StepZ) : Prop :=
  ∃ us : List Value, us.length = l.length ∧ Rd w (fun _ => True) 6 v l.length (stepsC l us) ∧ ∀ i (h : i < l.length) (h' : i < us.length), IntsAt w us[i] l[i].picks ∧ StepOk l[i]
theorem StepsAt.below {w w' : World} {v : Value} {l : List StepZ} (h : StepsAt w v l) (hb : Below w.heap.size w w') : StepsAt w' v l := by
  obtain ⟨us, hl, hr, hs⟩ := h
  exact ⟨us, hl, hr.below hb, fun i a b => ⟨(hs i a b).1.below hb, (hs i a b).2⟩⟩
theorem StepsAt.form {w : World} {v : Value} {l : List StepZ} (h : StepsAt w v l) : ∃ a cap, v = .slice a l.length cap ∧ l.length ≤ cap ∧ cap ≤ maxLen := by
  obtain ⟨us, _, hr, _⟩ := h
  exact hr.form
/-- A step of the script, as it reads. -/
theorem StepsAt.at {w : World} {a : Option Addr} {c : Nat} {l : List StepZ} (h : StepsAt w (.slice a l.length c) l) {k : Nat} (hk : k < l.length) :
    ∃ b off u, a = some ⟨b, off, none⟩ ∧ b < w.heap.size ∧ w.rangeAt b (off + k * 6) (stepC l[k] u) ∧ IntsAt w u l[k].picks ∧ StepOk l[k] := by
  obtain ⟨us, hl, hr, hs⟩ := h
  obtain ⟨b, off, e, hb, hc⟩ := Rd.at hr (by omega)
  have hk' : k < us.length := by omega
  refine ⟨b, off, us[k], e, hb, fun j x hx => ?_, hs k hk hk'⟩
  have hj : j < 6 := by
    have := (List.getElem?_eq_some_iff.1 hx).1
    simpa [stepC] using this
  rw [Nat.add_assoc]
  apply hc
  rw [stepsC_get l us k j hk hk' hj]
  exact hx
section
variable {H : Type} {enc : TypeId × Value → H} {W : World} {sp : Nat → Bool} {held : Bool}
theorem rd_of_cells {v : Value} {k : Nat} {a : Addr} {len cap : Nat} {cs : List Value} (hv : v = .slice (some a) len cap) (hl : len ≤ cap) (hm : cap ≤ maxLen) (hlen : cs.length = len * k)
    (hblk : 0 < cap → ∃ u, W.cell? a = some u) (hcell : ∀ j u, cs[j]? = some u → W.cell? (a.add j) = some u) : Rd W (fun _ => True) k v len cs := by
  refine ⟨hlen, some a, cap, hv, hl, hm, fun e => (by cases e), fun ad e h0 => ?_⟩
  injection e with e
  subst e
  obtain ⟨b, off, spot⟩ := a
  obtain ⟨u0, hc0⟩ := hblk h0
  have hspot : spot = none := by simpa using World.cell?_spot hc0
  subst hspot
  cases hh : W.heap[b]? with
  | none => simp [World.cell?, hh] at hc0
  | some o =>
    have hx0 := hc0
    unfold World.cell? at hx0
    simp only [hh] at hx0
    split at hx0
    · rename_i cur t fz hoo
      injection hoo with hoo
      subst hoo
      refine ⟨rfl, cur, t, fz, trivial, rfl, fun j u hu => ?_⟩
      have h1 := hcell j u hu
      rw [add_plain] at h1
      simpa [World.cell?, hh] using h1
    · cases hx0
theorem ints_of_trod {fuel : Nat} {v : Value} {x : DataW H × List MemPlace} (h : DataW.trod enc Tryd.prog W 0 (fun _ => true) held fuel 44 [v] = some x) : ∃ l : List Int, IntsAt W v l := by
  rcases open_ints Tryd.underlying44 Tryd.underlying3 cellsInt h with ⟨hcs, hx⟩ | ⟨a, len, cap, zs, hcs, _, hl, hm, hz, hx, hcell, hwz⟩
  · simp at hcs
    subst hcs
    exact ⟨[], Rd.nil _ _ _, fun x hx => by simp at hx⟩
  · simp at hcs
    simp only [if_true] at hz
    refine ⟨zs.take len, ?_, fun x hx => i64_rng (hwz x (List.mem_of_mem_take hx))⟩
    have hlen : (zs.take len).length = len := by rw [List.length_take]; omega
    have := rd_of_cells (W := W) (k := 1) (cs := intsC (zs.take len)) hcs hl hm (by simp [intsC]; omega) (fun h0 => ⟨_, by simpa [Addr.add] using hcell 0 (by omega)⟩) (fun j u hu => ?_)
    · rw [hlen]; exact this
    · have hj : j < len := by
        have := (List.getElem?_eq_some_iff.1 hu).1
        simp [intsC] at this
        omega
      rw [hcell j (by omega)]
      simp [intsC, hj] at hu
      obtain ⟨x, hx, rfl⟩ := hu
      rw [List.getD, hx]; rfl
set_option maxRecDepth 100000 in
theorem open_ints_arg {W : World} {base : Nat} {v : Value} {d : DataW H} {p : List MemPlace} (hok : Value.okWide Tryd.prog W .any base 44 v) (h : DataW.Trod enc Tryd.prog W 0 (fun _ => true) held 44 v d p) : ∃ l : List Int, IntsAt W v l := by
  obtain ⟨a0, len, cap, rfl⟩ := okWide_slice Tryd.underlying44 hok
  obtain ⟨fuel, hf⟩ := h
  exact ints_of_trod (by simpa [Value.cells] using hf)
theorem u8_rng {x : Int} (h : (Lit.int .u8 x).wf = true) : 0 ≤ x ∧ x < 256 := by
  have h2 : 0 ≤ x ∧ x ≤ 255 := by simpa [Lit.wf, IntKind.min, IntKind.max, IntKind.signed, IntKind.bits] using h
  omega
instance : Inhabited StepZ := ⟨⟨0, 0, 0, 0, 0, []⟩⟩
set_option maxRecDepth 100000 in
theorem steps_of_trod {fuel : Nat} {v : Value} {x : DataW H × List MemPlace} (h : DataW.trod enc Tryd.prog W 0 (fun _ => true) held fuel 35 [v] = some x) : ∃ l : List StepZ, StepsAt W v l := by
  rcases Go.Deep.open_slice Tryd.underlying35 h with ⟨hcs, hx⟩ | ⟨a, len, cap, m, n, D, Pl, hcs, _, hl, hm, hmm, _, hx⟩
  · simp at hcs
    subst hcs
    exact ⟨[], [], rfl, Rd.nil _ _ _, fun i h => by simp at h⟩
  · simp at hcs
    simp only [if_true] at hmm
    subst hmm
    have ce : Tryd.prog.cellsOf 46 = 6 := by kernel_rfl
    have c0 : Tryd.prog.cellsOf 3 = 1 := cellsInt
    have c3 : Tryd.prog.cellsOf 5 = 1 := by kernel_rfl
    have c4 : Tryd.prog.cellsOf 44 = 1 := by kernel_rfl
    have each : ∀ i, i < m → ∃ q : StepZ × Value, (∀ (j : Nat) (x : Value), (stepC q.1 q.2)[j]? = some x → W.cell? (a.add (i * 6 + j)) = some x) ∧ IntsAt W q.2 q.1.picks ∧ StepOk q.1 := by
      intro i hi
      obtain ⟨cs', h1, h2⟩ := hx i hi
      rw [ce] at h1
      obtain ⟨_, hlen, hcell⟩ := World.cells?_some h1
      obtain ⟨xs, k, hk, hxy, _, hxl, hf⟩ := DataW.trod_struct Tryd.underlying46 h2
      match xs, hxl, cs', hlen with
      | [y0, y1, y2, y3, y4, y5], _, [v0, v1, v2, v3, v4, v5], _ =>
        have g0 := hf 0 _ rfl
        have g1 := hf 1 _ rfl
        have g2 := hf 2 _ rfl
        have g3 := hf 3 _ rfl
        have g4 := hf 4 _ rfl
        have g5 := hf 5 _ rfl
        simp [c0, c3, c4] at g0 g1 g2 g3 g4 g5
        obtain ⟨n0, e0, _, w0⟩ := DataW.trod_int Tryd.underlying3 g0
        obtain ⟨n1, e1, _, w1⟩ := DataW.trod_int Tryd.underlying3 g1
        obtain ⟨n2, e2, _, w2⟩ := DataW.trod_int Tryd.underlying3 g2
        obtain ⟨n3, e3, _, w3⟩ := DataW.trod_int Tryd.underlying3 g3
        obtain ⟨n4, e4, _, w4⟩ := DataW.trod_int Tryd.underlying5 g4
        obtain ⟨l5, i5⟩ := ints_of_trod g5
        simp at e0 e1 e2 e3 e4
        subst e0; subst e1; subst e2; subst e3; subst e4
        refine ⟨(⟨n0, n1, n2, n3, n4, l5⟩, v5), fun j x hx => ?_, i5, i64_rng w0, i64_rng w1, i64_rng w2, i64_rng w3, u8_rng w4⟩
        have hj : j < 6 := by
          have := (List.getElem?_eq_some_iff.1 hx).1
          simpa [stepC] using this
        have e := hcell j (by omega)
        rw [Go.Deep.add_add] at e
        rw [e]
        simpa [stepC] using hx
    obtain ⟨q, hq⟩ := Go.Deep.choose_lt each
    refine ⟨(List.range len).map fun i => (q i).1, (List.range len).map fun i => (q i).2, by simp, ?_, fun i h1 h2 => ?_⟩
    · have hg : ∀ j u, (stepsC ((List.range len).map fun i => (q i).1) ((List.range len).map fun i => (q i).2))[j]? = some u → W.cell? (a.add j) = some u := by
        intro j u hu
        have hj : j < len * 6 := by
          have := (List.getElem?_eq_some_iff.1 hu).1
          rw [stepsC_len _ _ (by simp)] at this
          simpa using this
        have hi : j / 6 < len := by omega
        have hr : j % 6 < 6 := by omega
        have hdm : j = j / 6 * 6 + j % 6 := by omega
        have G := stepsC_get ((List.range len).map fun i => (q i).1) ((List.range len).map fun i => (q i).2) (j / 6) (j % 6) (by simpa using hi) (by simpa using hi) hr
        simp only [List.getElem_map, List.getElem_range] at G
        rw [hdm] at hu ⊢
        rw [G] at hu
        exact (hq (j / 6) (by omega)).1 _ u hu
      have := rd_of_cells (W := W) (k := 6) hcs hl hm (by rw [stepsC_len _ _ (by simp)]; simp) (fun h0 => ⟨_, by simpa [Addr.add] using (hq 0 (by omega)).1 0 _ rfl⟩) hg
      simpa using this
    · have hi : i < len := by simpa using h1
      simpa using (hq i (by omega)).2
set_option maxRecDepth 100000 in
theorem open_steps_arg {W : World} {base : Nat} {v : Value} {d : DataW H} {p : List MemPlace} (hok : Value.okWide Tryd.prog W .any base 35 v) (h : DataW.Trod enc Tryd.prog W 0 (fun _ => true) held 35 v d p) : ∃ l : List StepZ, StepsAt W v l := by
  obtain ⟨a0, len, cap, rfl⟩ := okWide_slice Tryd.underlying35 hok
  obtain ⟨fuel, hf⟩ := h
  exact steps_of_trod (by simpa [Value.cells] using hf)
set_option maxRecDepth 100000 in
theorem bytes_of_trod {fuel : Nat} {v : Value} {x : DataW H × List MemPlace} (h : DataW.trod enc Tryd.prog W 0 (fun _ => true) held fuel 36 [v] = some x) : ∃ l : List Int, BytR W v l := by
  rcases Go.Deep.open_slice Tryd.underlying36 h with ⟨hcs, hx⟩ | ⟨a, len, cap, m, n, D, Pl, hcs, _, hl, hm, hmm, _, hx⟩
  · simp at hcs
    subst hcs
    exact ⟨[], Rd.nil _ _ _, fun x hx => by cases hx⟩
  · simp at hcs
    simp only [if_true] at hmm
    subst hmm
    have ce : Tryd.prog.cellsOf 5 = 1 := by kernel_rfl
    have each : ∀ i, i < m → ∃ q : Int, W.cell? (a.add i) = some (.int .u8 q) ∧ 0 ≤ q ∧ q < 256 := by
      intro i hi
      obtain ⟨cs', h1, h2⟩ := hx i hi
      rw [ce] at h1
      obtain ⟨_, hlen, hcell⟩ := World.cells?_some h1
      obtain ⟨n0, e0, _, w0⟩ := DataW.trod_int Tryd.underlying5 h2
      subst e0
      have e := hcell 0 (by omega)
      rw [Go.Deep.add_add] at e
      exact ⟨n0, by simpa using e, u8_rng w0⟩
    obtain ⟨q, hq⟩ := Go.Deep.choose_lt each
    refine ⟨(List.range len).map q, ?_, fun x hx => ?_⟩
    · have := rd_of_cells (W := W) (k := 1) (cs := byC ((List.range len).map q)) hcs hl hm (by simp [byC]) (fun h0 => ⟨_, by simpa [Addr.add] using (hq 0 (by omega)).1⟩) (fun j u hu => by
        have hj : j < len := by
          have := (List.getElem?_eq_some_iff.1 hu).1
          simpa [byC] using this
        simp [byC, hj] at hu
        rw [← hu]
        exact (hq j (by omega)).1)
      simpa using this
    · obtain ⟨i, hi, rfl⟩ := List.mem_map.1 hx
      have := List.mem_range.1 hi
      exact (hq i (by omega)).2
set_option maxRecDepth 100000 in
theorem open_bytes_arg {W : World} {base : Nat} {v : Value} {d : DataW H} {p : List MemPlace} (hok : Value.okWide Tryd.prog W .any base 36 v) (h : DataW.Trod enc Tryd.prog W 0 (fun _ => true) held 36 v d p) : ∃ l : List Int, BytR W v l := by
  obtain ⟨a0, len, cap, rfl⟩ := okWide_slice Tryd.underlying36 hok
  obtain ⟨fuel, hf⟩ := h
  exact bytes_of_trod (by simpa [Value.cells] using hf)
end
end Go.Proofs.YtipbkdlekanlmaaDoor
