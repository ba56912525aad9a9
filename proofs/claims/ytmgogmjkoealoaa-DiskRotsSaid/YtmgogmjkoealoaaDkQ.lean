/- The arguments of a law, opened: a list of ints, a script of operations, a string, an int. -/
import Derived.Test.YtmgogmjkoealoaaFrame
import Derived.Test.YtmgogmjkoealoaaDkK
import Derived.Deep.Slices
namespace Go.Proofs.Ytmgogmjkoealoaa
open Go.ChangeShapes Go.WideShapes Go.ChangeAt Go.RowKit Go.Lab Go.Disk
def opC (o : Disk.Op) (u : Value) : List Value := [.int .i64 o.kind, .int .i64 o.i, .int .i64 o.bit, .string o.text, u]
def opsC : List Disk.Op → List Value → List Value
  | o :: l, u :: us => opC o u ++ opsC l us
  | _, _ => []
theorem opsC_len : ∀ (l : List Disk.Op) (us : List Value), us.length = l.length → (opsC l us).length = l.length * 5
  | [], [], _ => rfl
  | [], _ :: _, h => by simp at h
  | _ :: _, [], h => by simp at h
  | e :: l, u :: us, h => by
    have := opsC_len l us (by simpa using h)
    simp [opsC, opC, this]; omega
theorem opsC_get : ∀ (l : List Disk.Op) (us : List Value) (i : Nat) (h : i < l.length) (h' : i < us.length),
    (opsC l us)[i * 5]? = some (.int .i64 l[i].kind) ∧ (opsC l us)[i * 5 + 1]? = some (.int .i64 l[i].i) ∧ (opsC l us)[i * 5 + 2]? = some (.int .i64 l[i].bit) ∧ (opsC l us)[i * 5 + 3]? = some (.string l[i].text) ∧ (opsC l us)[i * 5 + 4]? = some us[i]
  | [], _, _, h, _ => by simp at h
  | _ :: _, [], _, _, h' => by simp at h'
  | a :: l, b :: us, 0, _, _ => by simp [opsC, opC]
  | a :: l, b :: us, i + 1, h, h' => by
    have := opsC_get l us i (by simpa using h) (by simpa using h')
    have e : (i + 1) * 5 = i * 5 + 1 + 1 + 1 + 1 + 1 := by omega
    simpa [opsC, opC, e] using this
/-- A slice of operations: the cells, and each list of picks in its own slice. -/
def OpsAt (w : World) (v : Value) (l : List Disk.Op) : Prop :=
  ∃ us : List Value, us.length = l.length ∧ Rd w (fun _ => True) 5 v l.length (opsC l us) ∧ ∀ i (h : i < l.length) (h' : i < us.length), IntsAt w us[i] l[i].picks ∧ OpOk l[i]
theorem OpsAt.below {w w' : World} {v : Value} {l : List Disk.Op} (h : OpsAt w v l) (hb : Below w.heap.size w w') : OpsAt w' v l := by
  obtain ⟨us, hl, hr, hs⟩ := h
  exact ⟨us, hl, hr.below hb, fun i a b => ⟨(hs i a b).1.below hb, (hs i a b).2⟩⟩
theorem OpsAt.form {w : World} {v : Value} {l : List Disk.Op} (h : OpsAt w v l) : ∃ a cap, v = .slice a l.length cap ∧ l.length ≤ cap ∧ cap ≤ maxLen := by
  obtain ⟨us, _, hr, _⟩ := h
  exact hr.form
theorem OpsAt.at {w : World} {a : Option Addr} {c : Nat} {l : List Disk.Op} (h : OpsAt w (.slice a l.length c) l) {k : Nat} (hk : k < l.length) :
    ∃ b off u, a = some ⟨b, off, none⟩ ∧ b < w.heap.size ∧ (∀ j x, (opC l[k] u)[j]? = some x → w.cell? ⟨b, off + k * 5 + j, none⟩ = some x) ∧ IntsAt w u l[k].picks ∧ OpOk l[k] := by
  obtain ⟨us, hl, hr, hs⟩ := h
  obtain ⟨b, off, e, hb, hc⟩ := Rd.at hr (by omega)
  have hk' : k < us.length := by omega
  obtain ⟨g0, g1, g2, g3, g4⟩ := opsC_get l us k hk hk'
  refine ⟨b, off, us[k], e, hb, fun j x hx => ?_, hs k hk hk'⟩
  rw [Nat.add_assoc]
  apply hc
  match j, hx with
  | 0, hx => simp [opC] at hx; rw [← hx]; exact g0
  | 1, hx => simp [opC] at hx; rw [← hx]; exact g1
  | 2, hx => simp [opC] at hx; rw [← hx]; exact g2
  | 3, hx => simp [opC] at hx; rw [← hx]; exact g3
  | 4, hx => simp [opC] at hx; rw [← hx]; exact g4
/-- An operation of the script, as it reads in every later world. -/
theorem OpsAt.op {w : World} {a : Option Addr} {c : Nat} {l : List Disk.Op} (h : OpsAt w (.slice a l.length c) l) {k : Nat} (hk : k < l.length) :
    ∃ b off u, a = some ⟨b, off, none⟩ ∧ (∀ X, Below w.heap.size w X → X.cell? ⟨b, off + k * 5, none⟩ = some (.int .i64 l[k].kind) ∧ X.cell? ⟨b, off + k * 5 + 1, none⟩ = some (.int .i64 l[k].i) ∧ X.cell? ⟨b, off + k * 5 + 2, none⟩ = some (.int .i64 l[k].bit) ∧ X.cell? ⟨b, off + k * 5 + 3, none⟩ = some (.string l[k].text) ∧ X.cell? ⟨b, off + k * 5 + 4, none⟩ = some u) ∧
      (∀ X, Below w.heap.size w X → IntsAt X u l[k].picks) ∧ OpOk l[k] := by
  obtain ⟨b, off, u, e, hb, hc, hu, ho⟩ := h.at hk
  exact ⟨b, off, u, e, fun X hX => ⟨(hX.cell (p := ⟨b, off + k * 5, none⟩) hb).trans (hc 0 _ rfl), (hX.cell (p := ⟨b, off + k * 5 + 1, none⟩) hb).trans (hc 1 _ rfl), (hX.cell (p := ⟨b, off + k * 5 + 2, none⟩) hb).trans (hc 2 _ rfl),
    (hX.cell (p := ⟨b, off + k * 5 + 3, none⟩) hb).trans (hc 3 _ rfl), (hX.cell (p := ⟨b, off + k * 5 + 4, none⟩) hb).trans (hc 4 _ rfl)⟩, fun X hX => hu.below hX, ho⟩
theorem laidAll : laidOutB Try.prog = true := by kernel_rfl
theorem stays {H : Type} {enc : TypeId × Value → H} {t : TypeId} {W W' : World} {v : Value} {d : DataW H} {ps : List MemPlace} (hl : laidOutB Try.prog = true) (hr : Try.prog.readableRec t = true) (hrow : t < Try.prog.types.size)
    (h : DataW.Trod enc Try.prog W 0 (fun _ => true) true t v d ps) (hb : Below W.heap.size W W') (hlt : ∀ x ∈ ps, x.block < W.heap.size) (sp : Nat → Bool) (hsp : ∀ x ∈ ps, sp x.block = true) :
    DataW.Trod enc Try.prog W' 0 sp true t v d ps :=
  WideElems.Trod_stays hl hr hrow h (fun x hx => hb.same (hlt x hx)) hsp
section
variable {H : Type} {enc : TypeId × Value → H} {W : World} {sp : Nat → Bool} {held : Bool}
theorem rd_of_cells {v : Value} {k : Nat} {a : Addr} {len cap : Nat} {cs : List Value} (hv : v = .slice (some a) len cap) (hl : len ≤ cap) (hm : cap ≤ maxLen) (hlen : cs.length = len * k)
    (hblk : 0 < cap → ∃ u, W.cell? a = some u) (hcell : ∀ j u, cs[j]? = some u → W.cell? (a.add j) = some u) : Rd W (fun _ => True) k v len cs := by
  refine ⟨hlen, some a, cap, hv, hl, hm, fun e => (by cases e), fun ad e h0 => ?_⟩
  injection e with e
  subst e
  obtain ⟨b, off, spot⟩ := a
  obtain ⟨u0, hc0⟩ := hblk h0
  have hspot : spot = none := by simpa using World.cell?_spot hc0
  subst hspot
  cases hh : W.heap[b]? with
  | none => simp [World.cell?, hh] at hc0
  | some o =>
    have hx0 := hc0
    unfold World.cell? at hx0
    simp only [hh] at hx0
    split at hx0
    · rename_i cur t fz hoo
      injection hoo with hoo
      subst hoo
      refine ⟨rfl, cur, t, fz, trivial, rfl, fun j u hu => ?_⟩
      have h1 := hcell j u hu
      rw [add_plain] at h1
      simpa [World.cell?, hh] using h1
    · cases hx0
theorem ints_of_trod {fuel : Nat} {v : Value} {x : DataW H × List MemPlace} (h : DataW.trod enc Try.prog W 0 (fun _ => true) held fuel 31 [v] = some x) : ∃ l : List Int, IntsAt W v l := by
  rcases open_ints Try.underlying31 Try.underlying3 cellsInt h with ⟨hcs, hx⟩ | ⟨a, len, cap, zs, hcs, _, hl, hm, hz, hx, hcell, hwz⟩
  · simp at hcs
    subst hcs
    exact ⟨[], Rd.nil _ _ _, fun x hx => by simp at hx⟩
  · simp at hcs
    simp only [if_true] at hz
    refine ⟨zs.take len, ?_, fun x hx => i64_rng (hwz x (List.mem_of_mem_take hx))⟩
    have hlen : (zs.take len).length = len := by rw [List.length_take]; omega
    have := rd_of_cells (W := W) (k := 1) (cs := intsC (zs.take len)) hcs hl hm (by simp [intsC]; omega) (fun h0 => ⟨_, by simpa [Addr.add] using hcell 0 (by omega)⟩) (fun j u hu => ?_)
    · rw [hlen]; exact this
    · have hj : j < len := by
        have := (List.getElem?_eq_some_iff.1 hu).1
        simp [intsC] at this
        omega
      rw [hcell j (by omega)]
      simp [intsC, hj] at hu
      obtain ⟨x, hx, rfl⟩ := hu
      rw [List.getD, hx]; rfl
set_option maxRecDepth 100000 in
theorem open_ints_arg {W : World} {base : Nat} {v : Value} {d : DataW H} {p : List MemPlace} (hok : Value.okWide Try.prog W .any base 31 v) (h : DataW.Trod enc Try.prog W 0 (fun _ => true) held 31 v d p) : ∃ l : List Int, IntsAt W v l := by
  obtain ⟨a0, len, cap, rfl⟩ := okWide_slice Try.underlying31 hok
  obtain ⟨fuel, hf⟩ := h
  exact ints_of_trod (by simpa [Value.cells] using hf)
instance : Inhabited Disk.Op := ⟨⟨0, 0, 0, ByteArray.empty, []⟩⟩
set_option maxRecDepth 100000 in
theorem ops_of_trod {fuel : Nat} {v : Value} {x : DataW H × List MemPlace} (h : DataW.trod enc Try.prog W 0 (fun _ => true) held fuel 22 [v] = some x) : ∃ l : List Disk.Op, OpsAt W v l := by
  rcases Go.Deep.open_slice Try.underlying22 h with ⟨hcs, hx⟩ | ⟨a, len, cap, m, n, D, Pl, hcs, _, hl, hm, hmm, _, hx⟩
  · simp at hcs
    subst hcs
    exact ⟨[], [], rfl, Rd.nil _ _ _, fun i h => by simp at h⟩
  · simp at hcs
    simp only [if_true] at hmm
    subst hmm
    have ce : Try.prog.cellsOf 33 = 5 := by kernel_rfl
    have c0 : Try.prog.cellsOf 3 = 1 := cellsInt
    have c3 : Try.prog.cellsOf 9 = 1 := by kernel_rfl
    have c4 : Try.prog.cellsOf 31 = 1 := by kernel_rfl
    have each : ∀ i, i < m → ∃ q : Disk.Op × Value, (∀ j x, (opC q.1 q.2)[j]? = some x → W.cell? (a.add (i * 5 + j)) = some x) ∧ IntsAt W q.2 q.1.picks ∧ OpOk q.1 := by
      intro i hi
      obtain ⟨cs', h1, h2⟩ := hx i hi
      rw [ce] at h1
      obtain ⟨_, hlen, hcell⟩ := World.cells?_some h1
      obtain ⟨xs, k, hk, hxy, _, hxl, hf⟩ := DataW.trod_struct Try.underlying33 h2
      match xs, hxl, cs', hlen with
      | [y0, y1, y2, y3, y4], _, [v0, v1, v2, v3, v4], _ =>
        have g0 := hf 0 _ rfl
        have g1 := hf 1 _ rfl
        have g2 := hf 2 _ rfl
        have g3 := hf 3 _ rfl
        have g4 := hf 4 _ rfl
        simp [c0, c3, c4] at g0 g1 g2 g3 g4
        obtain ⟨n0, e0, _, w0⟩ := DataW.trod_int Try.underlying3 g0
        obtain ⟨n1, e1, _, w1⟩ := DataW.trod_int Try.underlying3 g1
        obtain ⟨n2, e2, _, w2⟩ := DataW.trod_int Try.underlying3 g2
        obtain ⟨s3, e3, _, w3⟩ := DataW.trod_string Try.underlying9 g3
        obtain ⟨l4, i4⟩ := ints_of_trod g4
        simp at e0 e1 e2 e3
        subst e0; subst e1; subst e2; subst e3
        refine ⟨(⟨n0, n1, n2, s3, l4⟩, v4), fun j x hx => ?_, i4, i64_rng w0, i64_rng w1, i64_rng w2, w3⟩
        have hj : j < 5 := by
          have := (List.getElem?_eq_some_iff.1 hx).1
          simpa [opC] using this
        have e := hcell j (by omega)
        rw [Go.Deep.add_add] at e
        rw [e]
        simpa [opC] using hx
    obtain ⟨q, hq⟩ := Go.Deep.choose_lt each
    refine ⟨(List.range len).map fun i => (q i).1, (List.range len).map fun i => (q i).2, by simp, ?_, fun i h1 h2 => ?_⟩
    · have hg : ∀ j u, (opsC ((List.range len).map fun i => (q i).1) ((List.range len).map fun i => (q i).2))[j]? = some u → W.cell? (a.add j) = some u := by
        intro j u hu
        have hj : j < len * 5 := by
          have := (List.getElem?_eq_some_iff.1 hu).1
          rw [opsC_len _ _ (by simp)] at this
          simpa using this
        have hi : j / 5 < len := by omega
        have G := opsC_get ((List.range len).map fun i => (q i).1) ((List.range len).map fun i => (q i).2) (j / 5) (by simpa using hi) (by simpa using hi)
        simp only [List.getElem_map, List.getElem_range] at G
        obtain ⟨G0, G1, G2, G3, G4⟩ := G
        have K := (hq (j / 5) (by omega)).1
        have hdm : j = j / 5 * 5 + j % 5 := by omega
        have hr : j % 5 < 5 := by omega
        rw [hdm]
        rw [hdm] at hu
        generalize j / 5 = i at *
        generalize j % 5 = r at *
        match r, hr with
        | 0, _ => rw [Nat.add_zero] at hu; rw [G0] at hu; exact K 0 u (by simpa [opC] using hu)
        | 1, _ => rw [G1] at hu; exact K 1 u (by simpa [opC] using hu)
        | 2, _ => rw [G2] at hu; exact K 2 u (by simpa [opC] using hu)
        | 3, _ => rw [G3] at hu; exact K 3 u (by simpa [opC] using hu)
        | 4, _ => rw [G4] at hu; exact K 4 u (by simpa [opC] using hu)
      have := rd_of_cells (W := W) (k := 5) hcs hl hm (by rw [opsC_len _ _ (by simp)]; simp) (fun h0 => ⟨_, by simpa [Addr.add] using (hq 0 (by omega)).1 0 _ rfl⟩) hg
      simpa using this
    · have hi : i < len := by simpa using h1
      simpa using (hq i (by omega)).2
set_option maxRecDepth 100000 in
theorem open_ops_arg {W : World} {base : Nat} {v : Value} {d : DataW H} {p : List MemPlace} (hok : Value.okWide Try.prog W .any base 22 v) (h : DataW.Trod enc Try.prog W 0 (fun _ => true) held 22 v d p) : ∃ l : List Disk.Op, OpsAt W v l := by
  obtain ⟨a0, len, cap, rfl⟩ := okWide_slice Try.underlying22 hok
  obtain ⟨fuel, hf⟩ := h
  exact ops_of_trod (by simpa [Value.cells] using hf)
set_option maxRecDepth 100000 in
theorem open_int_arg {W : World} {base : Nat} {v : Value} {d : DataW H} {p : List MemPlace} (hok : Value.okWide Try.prog W .any base 3 v) (h : DataW.Trod enc Try.prog W 0 (fun _ => true) held 3 v d p) : ∃ n : Int, v = .int .i64 n ∧ -9223372036854775808 ≤ n ∧ n ≤ 9223372036854775807 := by
  obtain ⟨n, rfl⟩ := okWide_int Try.underlying3 hok
  obtain ⟨fuel, hf⟩ := h
  obtain ⟨m, e, _, hw⟩ := DataW.trod_int Try.underlying3 hf
  simp [Value.cells] at e
  subst e
  exact ⟨n, rfl, i64_rng hw⟩
set_option maxRecDepth 100000 in
theorem open_str_arg {W : World} {base : Nat} {v : Value} {d : DataW H} {p : List MemPlace} (hok : Value.okWide Try.prog W .any base 9 v) (h : DataW.Trod enc Try.prog W 0 (fun _ => true) held 9 v d p) : ∃ s : ByteArray, v = .string s ∧ s.size ≤ maxLen := by
  obtain ⟨n, rfl⟩ := okWide_string Try.underlying9 hok
  obtain ⟨fuel, hf⟩ := h
  obtain ⟨m, e, _, hw⟩ := DataW.trod_string Try.underlying9 hf
  simp [Value.cells] at e
  subst e
  exact ⟨n, rfl, hw⟩
end
end Go.Proofs.Ytmgogmjkoealoaa
