/- Journal: the reference's Text of a step. -/
import Derived.Test.YtipbkdlekanlmaaDoorJs12
import Derived.Test.YtipbkdlekanlmaaDoorJs24
import Derived.Deep.Slices
import Derived.Test.YtipbkdlekanlmaaDoorJs21
namespace Go.Proofs.YtipbkdlekanlmaaDoor
open Go.RowKit Go.Lab Go.Jn Go.Disk
attribute [local go_sem] Oper.semAt_some
set_option maxRecDepth 100000
theorem range_map25 (f : Nat → Value) : (List.range 25).map f = [f 0, f 1, f 2, f 3, f 4, f 5, f 6, f 7, f 8, f 9, f 10, f 11, f 12, f 13, f 14, f 15, f 16, f 17, f 18, f 19, f 20, f 21, f 22, f 23, f 24] := rfl
theorem frame25 (t : Array Value) (ds : List Deferred) (h : t.size = 25) : ({ tmps := t, defers := ds } : Act) = { tmps := #[slot t 0, slot t 1, slot t 2, slot t 3, slot t 4, slot t 5, slot t 6, slot t 7, slot t 8, slot t 9, slot t 10, slot t 11, slot t 12, slot t 13, slot t 14, slot t 15, slot t 16, slot t 17, slot t 18, slot t 19, slot t 20, slot t 21, slot t 22, slot t 23, slot t 24], defers := ds } := by
  have e : t = ((List.range 25).map (slot t)).toArray := by
    apply Array.ext
    · simp [h]
    · intro i h1 h2
      simp [slot, Array.getD, h1]
  rw [range_map25] at e
  exact congrArg (fun x => ({ tmps := x, defers := ds } : Act)) e
def sizeZ (size : Int) : Nat := (min (max size 0) 8100).toNat
def fillB (fill : Int) (n : Nat) : List Int := (List.range n).map fun k : Nat => (fill + (k : Int)) % 256
/-- The text of a step. -/
def stepText (size fill : Int) : ByteArray := strOfNums (fillB fill (sizeZ size))
theorem fillB_rng (fill : Int) (n : Nat) : ∀ x ∈ fillB fill n, 0 ≤ x ∧ x < 256 := by
  intro x hx
  obtain ⟨k, _, rfl⟩ := List.mem_map.1 hx
  exact ⟨Int.emod_nonneg _ (by decide), Int.emod_lt_of_pos _ (by decide)⟩
theorem fillB_len (fill : Int) (n : Nat) : (fillB fill n).length = n := by simp [fillB]
theorem fillB_snoc (fill : Int) (n : Nat) : fillB fill (n + 1) = fillB fill n ++ [(fill + (n : Int)) % 256] := by simp [fillB, List.range_succ]
def TxI (fill : Int) (cs : Array Value) (B1 n : Nat) (w : World) (v iv : Value) (wr : World) : Prop := ∃ i : Nat, i ≤ n ∧ iv = .int .i64 (i : Nat) ∧ wr.ownsRow w.heap.size 5 1 v i (byC (fillB fill i)) ∧ wr.heap[B1]? = some (.cells cs 46) ∧ Below w.heap.size w wr
set_option maxHeartbeats 4000000 in
theorem textR_any (kd ix bt size fill : Int) (pa : Option Addr) (pn pc : Nat) (w : World) (hf : 0 ≤ fill ∧ fill < 256) :
    Calls Tryd.prog 17 #[.agg #[.int .i64 kd, .int .i64 ix, .int .i64 bt, .int .i64 size, .int .u8 fill, .slice pa pn pc]] w fun e w' => e = .returned (.string (stepText size fill)) ∧ Below w.heap.size w w' := by
  have hnil : w.ownsRow w.heap.size 5 1 (.slice none 0 0) 0 (byC (fillB fill 0)) := ⟨rfl, .inl ⟨rfl, rfl⟩⟩
  go_enter Tryd.func17, Tryd.ntmps17
  go_upto_region 1 with (fail)
  obtain ⟨cs, hcs⟩ : ∃ cs : Array Value, cs = #[.int .i64 kd, .int .i64 ix, .int .i64 bt, .int .i64 size, .int .u8 fill, .slice pa pn pc] := ⟨_, rfl⟩
  refine wp_abs (fun X => X.heap[w.heap.size]? = some (.cells cs 46) ∧ Below w.heap.size w X) ⟨by rw [hcs]; exact heap_alloc_new _ _, (Below.refl _ _).alloc (Nat.le_refl _) _⟩ ?_
  rintro X ⟨hq1, hbX⟩
  obtain ⟨B1, hB1⟩ : ∃ B, B = w.heap.size := ⟨_, rfl⟩
  rw [← hB1] at hq1
  rw [← hB1]
  have HB1 := hidep hB1
  clear hB1
  obtain ⟨n, hn⟩ : ∃ n, n = sizeZ size := ⟨_, rfl⟩
  have hn8 : n ≤ 8100 ∧ (n : Int) = min (max size 0) 8100 := by unfold sizeZ at hn; omega
  have HN := hidep hn
  clear hn
  have hcl : X.cell? ⟨B1, 3, none⟩ = some (.int .i64 size) := by simp [World.cell?, hq1, hcs]
  have HCS := hidep hcs
  clear hcs
  refine wp_region_lit ?_
  refine wpList_value rfl (v := .pointer (some ⟨B1, 3, none⟩)) (w' := X) (by kernel_rfl) ?_
  refine wpList_value rfl (v := .int .i64 size) (w' := X) (by
    have e : ∀ ev : Operand → Value, ev (.tmp 6) = .pointer (some ⟨B1, 3, none⟩) → (execOp ev ⟨some 7, .load 3 (.tmp 6), 3, "", #[], none⟩).run Tryd.prog X = .ok (.value (.int .i64 size)) X := fun ev ha => by
      go_simp
    exact e _ (by kernel_rfl)) ?_
  refine wpList_value rfl (v := .int .i64 (max size 0)) (w' := X) (by
    have e : ∀ ev : Operand → Value, ev (.tmp 7) = .int .i64 size → ev (.const (.int .i64 0)) = .int .i64 0 → (execOp ev ⟨some 8, .call { callee := .builtin .max, args := #[.tmp 7, .const (.int .i64 0)], argTypes := #[3, 3] }, 3, "", #[], none⟩).run Tryd.prog X = .ok (.value (.int .i64 (max size 0))) X := fun ev ha hc => by
      clear hn8
      by_cases hle : size ≤ 0
      · have hm : max size 0 = 0 := by omega
        rw [hm]
        go_simp
        all_goals (intro h; omega)
      · have hm : max size 0 = size := by omega
        rw [hm]
        go_simp
        all_goals (intro h; omega)
    exact e _ (by kernel_rfl) rfl) ?_
  refine wpList_value rfl (v := .int .i64 (n : Int)) (w' := X) (by
    have e : ∀ ev : Operand → Value, ev (.tmp 8) = .int .i64 (max size 0) → ev (.const (.int .i64 8100)) = .int .i64 8100 → (execOp ev ⟨some 9, .call { callee := .builtin .min, args := #[.tmp 8, .const (.int .i64 8100)], argTypes := #[3, 3] }, 3, "", #[], none⟩).run Tryd.prog X = .ok (.value (.int .i64 (n : Int))) X := fun ev ha hc => by
      obtain ⟨m, hm⟩ : ∃ m, m = max size 0 := ⟨_, rfl⟩
      rw [← hm] at ha hn8
      have h2 := hn8.2
      clear hn8 hm
      by_cases hle : m ≤ 8100
      · have hx : (n : Int) = m := by omega
        rw [hx]
        go_simp
        all_goals (intro h; omega)
      · have hx : (n : Int) = 8100 := by omega
        rw [hx]
        go_simp
        all_goals (intro h; omega)
    exact e _ (by kernel_rfl) rfl) ?_
  refine wpList_value rfl (v := .int .i64 (n : Int)) (w' := X) (by kernel_rfl) ?_
  refine wpList_nil ?_
  apply_assumption
  have hn81 := hn8.1
  clear hn8 hcl
  have hnilX : X.ownsRow w.heap.size 5 1 (.slice none 0 0) 0 (byC (fillB fill 0)) := ⟨rfl, .inl ⟨rfl, rfl⟩⟩
  refine wp_cutA 25 (fun tm ds => ds = [] ∧ slot tm 1 = .pointer (some ⟨B1, 0, none⟩) ∧ slot tm 3 = .int .i64 (n : Int)) (by kernel_rfl) (by exact ⟨by kernel_rfl, by kernel_rfl, by kernel_rfl⟩) ?_
  rintro tA dA h25 ⟨rfl, e1, e3⟩
  rw [frame25 tA [] h25, e1, e3]
  clear h25 e1 e3 hnil
  go_upto_region 4 with (fail)
  refine wp_loop (LoopI 25 (fun tm ds wr => (slot tm 1) = .pointer (some ⟨B1, 0, none⟩) ∧ (slot tm 3) = .int .i64 (n : Nat) ∧ ds = [] ∧ TxI fill cs B1 n w (slot tm 4) (slot tm 5) wr)) (fun a' wr => n - natI (a'.tmps.getD 5 undef)) ?mainStart ?mainRound
  case' mainStart => refine LoopI.mk rfl ?_
  case' mainRound => (rintro ⟨t, ds⟩ wr ⟨hts, hrel⟩; dsimp only at hts hrel; rw [frame25 t ds hts])
  case mainStart => exact ⟨rfl, rfl, rfl, 0, Nat.zero_le _, rfl, hnilX, hq1, hbX⟩
  clear hnilX hq1 hbX
  obtain ⟨e1, e3, hds, i, hi, e5, hown, hq1, hbw⟩ := hrel
  subst hds
  obtain ⟨za, zc, hv, _, _⟩ := (Rd.of_own hown).form
  rw [hv] at hown
  rw [e1, e3, e5, hv]
  clear e1 e3 e5 hv hts
  have hsw := hbw.size
  by_cases hin : i < n
  · have hini : (i : Int) < (n : Int) := by omega
    have hcl : wr.cell? ⟨B1, 4, none⟩ = some (.int .u8 fill) := by simp [World.cell?, hq1, HCS.out]
    have hownA := fun o => own_below hown (Below.alloc (Below.refl wr.heap.size wr) (Nat.le_refl _) o)
    have hq1A := fun o => below_push ((Below.refl wr.heap.size wr).alloc (Nat.le_refl _) o) hq1
    have hsn := fillB_snoc fill i
    obtain ⟨x, hx⟩ : ∃ x, x = (fill + (i : Int)) % 256 := ⟨_, rfl⟩
    have hw1 : (fill + (i : Int) % 256) % 256 = x := by rw [hx]; omega
    have hxr : 0 ≤ x ∧ x < 256 := by omega
    rw [← hx] at hsn
    have HS := hidep hsn
    clear hx hsn
    go_wp2_with (first
      | (at_builtin; refine wpList_append_rd _ rfl (.tmp 15) (.tmp 21) rfl slByteR w.heap.size _ _ _ rfl (hownA _) _ _ _ _ rfl (Rd.fresh wr _ 5 1 1 rfl (by decide)) (by intro u hu; simp at hu; subst hu; rfl) (by unfold maxLen; omega) (by omega) (by simp; omega) ?_; intro v3 w3 hown3 hgr3 hat3 hnl3; clear hat3 hnl3; have hr1 := grown_other (hownA _) hgr3 (hq1A _) (by decide); have hb3 : Below w.heap.size w w3 := (hbw.alloc hsw _).grown hgr3 (by simp; omega) (fun g hg => ((hownA (.cells #[] 0)).lt g hg).1))
      | fail)
    refine ⟨LoopI.mk rfl ⟨rfl, rfl, rfl, i + 1, by omega, by show Value.int _ _ = _; go_num, by rw [HS.out, byC_snoc]; exact hown3, hr1, hb3⟩, ?_⟩
    show n - _ < n - _
    simp [natI]; omega
  · have hini : ¬ (i : Int) < (n : Int) := by omega
    have hin2 : i = n := by omega
    have hst : stepText size fill = strOfNums (fillB fill n) := by unfold stepText; rw [← HN.out]
    rw [hin2] at hown
    rw [hin2]
    have HST := hidep hst
    have hcv : (convert 36 9 (.slice za n zc)).run Tryd.prog wr = .ok (.string (strOfNums (fillB fill n))) wr := by
      rcases Nat.eq_zero_or_pos n with h0 | h0
      · rcases hown.2 with ⟨he, _⟩ | ⟨g, cap, cur, he, _⟩
        · injection he with he _ _
          subst he
          rw [h0]
          exact run_convert_bytes_nil (P := Tryd.prog) wr 36 5 (by kernel_rfl) (by kernel_rfl) 0 zc 9 (by kernel_rfl)
        · injection he with he _ _
          subst he
          rw [h0]
          exact run_convert_bytes_arg (P := Tryd.prog) wr 36 5 (by kernel_rfl) (by kernel_rfl) g 0 0 zc [] rfl (fun i hi => by omega) 9 (by kernel_rfl)
      · have hbt : BytR wr (.slice za n zc) (fillB fill n) := ⟨by rw [fillB_len]; exact (Rd.of_own hown).mono (fun _ _ => trivial), fillB_rng fill n⟩
        exact bytR_str hbt (by rw [fillB_len]; exact h0)
    clear hst hin2 hown
    go_wp2
    go_ret
    exact ⟨by rw [HST.out]; kernel_rfl, hbw⟩
end Go.Proofs.YtipbkdlekanlmaaDoor
/- Journal: the arguments of a law, opened: a script of steps, a list of bytes. -/
namespace Go.Proofs.YtipbkdlekanlmaaDoor
open Go.ChangeShapes Go.WideShapes Go.ChangeAt Go.RowKit Go.Lab Go.Disk Go.Jn
/-- A step of a script. -/
structure StepZ where
  kind : Int
  i : Int
  bit : Int
  size : Int
  fill : Int
  picks : List Int
def i64r (n : Int) : Prop := -9223372036854775808 ≤ n ∧ n ≤ 9223372036854775807
def StepOk (o : StepZ) : Prop := i64r o.kind ∧ i64r o.i ∧ i64r o.bit ∧ i64r o.size ∧ 0 ≤ o.fill ∧ o.fill < 256
def stepC (o : StepZ) (u : Value) : List Value := [.int .i64 o.kind, .int .i64 o.i, .int .i64 o.bit, .int .i64 o.size, .int .u8 o.fill, u]
def stepsC : List StepZ → List Value → List Value
  | o :: l, u :: us => stepC o u ++ stepsC l us
  | _, _ => []
theorem stepsC_len : ∀ (l : List StepZ) (us : List Value), us.length = l.length → (stepsC l us).length = l.length * 6
  | [], [], _ => rfl
  | [], _ :: _, h => by simp at h
  | _ :: _, [], h => by simp at h
  | e :: l, u :: us, h => by
    have := stepsC_len l us (by simpa using h)
    simp [stepsC, stepC, this]; omega
theorem stepsC_get : ∀ (l : List StepZ) (us : List Value) (i j : Nat) (h : i < l.length) (h' : i < us.length), j < 6 → (stepsC l us)[i * 6 + j]? = (stepC l[i] us[i])[j]?
  | [], _, _, _, h, _, _ => by simp at h
  | _ :: _, [], _, _, _, h', _ => by simp at h'
  | a :: l, b :: us, 0, j, _, _, hj => by
    rw [stepsC, Nat.zero_mul, Nat.zero_add, List.getElem?_append_left (by simp [stepC]; omega)]
    rfl
  | a :: l, b :: us, i + 1, j, h, h', hj => by
    have := stepsC_get l us i j (by simpa using h) (by simpa using h') hj
    rw [stepsC, List.getElem?_append_right (by simp [stepC]; omega)]
    simp only [stepC, List.length_cons, List.length_nil, List.getElem_cons_succ]
    rw [show (i + 1) * 6 + j - (0 + 1 + 1 + 1 + 1 + 1 + 1) = i * 6 + j from by omega]
    exact this
/-- A slice of steps: the cells, and each list of picks in its own slice. -/
def StepsAt (w : World) (v : Value) (l : List StepZ) : Prop :=
  ∃ us : List Value, us.length = l.length ∧ Rd w (fun _ => True) 6 v l.length (stepsC l us) ∧ ∀ i (h : i < l.length) (h' : i < us.length), IntsAt w us[i] l[i].picks ∧ StepOk l[i]
theorem StepsAt.below {w w' : World} {v : Value} {l : List StepZ} (h : StepsAt w v l) (hb : Below w.heap.size w w') : StepsAt w' v l := by
  obtain ⟨us, hl, hr, hs⟩ := h
  exact ⟨us, hl, hr.below hb, fun i a b => ⟨(hs i a b).1.below hb, (hs i a b).2⟩⟩
theorem StepsAt.form {w : World} {v : Value} {l : List StepZ} (h : StepsAt w v l) : ∃ a cap, v = .slice a l.length cap ∧ l.length ≤ cap ∧ cap ≤ maxLen := by
  obtain ⟨us, _, hr, _⟩ := h
  exact hr.form
/-- A step of the script, as it reads. -/
theorem StepsAt.at {w : World} {a : Option Addr} {c : Nat} {l : List StepZ} (h : StepsAt w (.slice a l.length c) l) {k : Nat} (hk : k < l.length) :
    ∃ b off u, a = some ⟨b, off, none⟩ ∧ b < w.heap.size ∧ w.rangeAt b (off + k * 6) (stepC l[k] u) ∧ IntsAt w u l[k].picks ∧ StepOk l[k] := by
  obtain ⟨us, hl, hr, hs⟩ := h
  obtain ⟨b, off, e, hb, hc⟩ := Rd.at hr (by omega)
  have hk' : k < us.length := by omega
  refine ⟨b, off, us[k], e, hb, fun j x hx => ?_, hs k hk hk'⟩
  have hj : j < 6 := by
    have := (List.getElem?_eq_some_iff.1 hx).1
    simpa [stepC] using this
  rw [Nat.add_assoc]
  apply hc
  rw [stepsC_get l us k j hk hk' hj]
  exact hx
section
variable {H : Type} {enc : TypeId × Value → H} {W : World} {sp : Nat → Bool} {held : Bool}
theorem rd_of_cells {v : Value} {k : Nat} {a : Addr} {len cap : Nat} {cs : List Value} (hv : v = .slice (some a) len cap) (hl : len ≤ cap) (hm : cap ≤ maxLen) (hlen : cs.length = len * k)
    (hblk : 0 < cap → ∃ u, W.cell? a = some u) (hcell : ∀ j u, cs[j]? = some u → W.cell? (a.add j) = some u) : Rd W (fun _ => True) k v len cs := by
  refine ⟨hlen, some a, cap, hv, hl, hm, fun e => (by cases e), fun ad e h0 => ?_⟩
  injection e with e
  subst e
  obtain ⟨b, off, spot⟩ := a
  obtain ⟨u0, hc0⟩ := hblk h0
  have hspot : spot = none := by simpa using World.cell?_spot hc0
  subst hspot
  cases hh : W.heap[b]? with
  | none => simp [World.cell?, hh] at hc0
  | some o =>
    have hx0 := hc0
    unfold World.cell? at hx0
    simp only [hh] at hx0
    split at hx0
    · rename_i cur t fz hoo
      injection hoo with hoo
      subst hoo
      refine ⟨rfl, cur, t, fz, trivial, rfl, fun j u hu => ?_⟩
      have h1 := hcell j u hu
      rw [add_plain] at h1
      simpa [World.cell?, hh] using h1
    · cases hx0
theorem ints_of_trod {fuel : Nat} {v : Value} {x : DataW H × List MemPlace} (h : DataW.trod enc Tryd.prog W 0 (fun _ => true) held fuel 44 [v] = some x) : ∃ l : List Int, IntsAt W v l := by
  rcases open_ints Tryd.underlying44 Tryd.underlying3 cellsInt h with ⟨hcs, hx⟩ | ⟨a, len, cap, zs, hcs, _, hl, hm, hz, hx, hcell, hwz⟩
  · simp at hcs
    subst hcs
    exact ⟨[], Rd.nil _ _ _, fun x hx => by simp at hx⟩
  · simp at hcs
    simp only [if_true] at hz
    refine ⟨zs.take len, ?_, fun x hx => i64_rng (hwz x (List.mem_of_mem_take hx))⟩
    have hlen : (zs.take len).length = len := by rw [List.length_take]; omega
    have := rd_of_cells (W := W) (k := 1) (cs := intsC (zs.take len)) hcs hl hm (by simp [intsC]; omega) (fun h0 => ⟨_, by simpa [Addr.add] using hcell 0 (by omega)⟩) (fun j u hu => ?_)
    · rw [hlen]; exact this
    · have hj : j < len := by
        have := (List.getElem?_eq_some_iff.1 hu).1
        simp [intsC] at this
        omega
      rw [hcell j (by omega)]
      simp [intsC, hj] at hu
      obtain ⟨x, hx, rfl⟩ := hu
      rw [List.getD, hx]; rfl
set_option maxRecDepth 100000 in
theorem open_ints_arg {W : World} {base : Nat} {v : Value} {d : DataW H} {p : List MemPlace} (hok : Value.okWide Tryd.prog W .any base 44 v) (h : DataW.Trod enc Tryd.prog W 0 (fun _ => true) held 44 v d p) : ∃ l : List Int, IntsAt W v l := by
  obtain ⟨a0, len, cap, rfl⟩ := okWide_slice Tryd.underlying44 hok
  obtain ⟨fuel, hf⟩ := h
  exact ints_of_trod (by simpa [Value.cells] using hf)
theorem u8_rng {x : Int} (h : (Lit.int .u8 x).wf = true) : 0 ≤ x ∧ x < 256 := by
  have h2 : 0 ≤ x ∧ x ≤ 255 := by simpa [Lit.wf, IntKind.min, IntKind.max, IntKind.signed, IntKind.bits] using h
  omega
instance : Inhabited StepZ := ⟨⟨0, 0, 0, 0, 0, []⟩⟩
set_option maxRecDepth 100000 in
theorem steps_of_trod {fuel : Nat} {v : Value} {x : DataW H × List MemPlace} (h : DataW.trod enc Tryd.prog W 0 (fun _ => true) held fuel 35 [v] = some x) : ∃ l : List StepZ, StepsAt W v l := by
  rcases Go.Deep.open_slice Tryd.underlying35 h with ⟨hcs, hx⟩ | ⟨a, len, cap, m, n, D, Pl, hcs, _, hl, hm, hmm, _, hx⟩
  · simp at hcs
    subst hcs
    exact ⟨[], [], rfl, Rd.nil _ _ _, fun i h => by simp at h⟩
  · simp at hcs
    simp only [if_true] at hmm
    subst hmm
    have ce : Tryd.prog.cellsOf 46 = 6 := by kernel_rfl
    have c0 : Tryd.prog.cellsOf 3 = 1 := cellsInt
    have c3 : Tryd.prog.cellsOf 5 = 1 := by kernel_rfl
    have c4 : Tryd.prog.cellsOf 44 = 1 := by kernel_rfl
    have each : ∀ i, i < m → ∃ q : StepZ × Value, (∀ (j : Nat) (x : Value), (stepC q.1 q.2)[j]? = some x → W.cell? (a.add (i * 6 + j)) = some x) ∧ IntsAt W q.2 q.1.picks ∧ StepOk q.1 := by
      intro i hi
      obtain ⟨cs', h1, h2⟩ := hx i hi
      rw [ce] at h1
      obtain ⟨_, hlen, hcell⟩ := World.cells?_some h1
      obtain ⟨xs, k, hk, hxy, _, hxl, hf⟩ := DataW.trod_struct Tryd.underlying46 h2
      match xs, hxl, cs', hlen with
      | [y0, y1, y2, y3, y4, y5], _, [v0, v1, v2, v3, v4, v5], _ =>
        have g0 := hf 0 _ rfl
        have g1 := hf 1 _ rfl
        have g2 := hf 2 _ rfl
        have g3 := hf 3 _ rfl
        have g4 := hf 4 _ rfl
        have g5 := hf 5 _ rfl
        simp [c0, c3, c4] at g0 g1 g2 g3 g4 g5
        obtain ⟨n0, e0, _, w0⟩ := DataW.trod_int Tryd.underlying3 g0
        obtain ⟨n1, e1, _, w1⟩ := DataW.trod_int Tryd.underlying3 g1
        obtain ⟨n2, e2, _, w2⟩ := DataW.trod_int Tryd.underlying3 g2
        obtain ⟨n3, e3, _, w3⟩ := DataW.trod_int Tryd.underlying3 g3
        obtain ⟨n4, e4, _, w4⟩ := DataW.trod_int Tryd.underlying5 g4
        obtain ⟨l5, i5⟩ := ints_of_trod g5
        simp at e0 e1 e2 e3 e4
        subst e0; subst e1; subst e2; subst e3; subst e4
        refine ⟨(⟨n0, n1, n2, n3, n4, l5⟩, v5), fun j x hx => ?_, i5, i64_rng w0, i64_rng w1, i64_rng w2, i64_rng w3, u8_rng w4⟩
        have hj : j < 6 := by
          have := (List.getElem?_eq_some_iff.1 hx).1
          simpa [stepC] using this
        have e := hcell j (by omega)
        rw [Go.Deep.add_add] at e
        rw [e]
        simpa [stepC] using hx
    obtain ⟨q, hq⟩ := Go.Deep.choose_lt each
    refine ⟨(List.range len).map fun i => (q i).1, (List.range len).map fun i => (q i).2, by simp, ?_, fun i h1 h2 => ?_⟩
    · have hg : ∀ j u, (stepsC ((List.range len).map fun i => (q i).1) ((List.range len).map fun i => (q i).2))[j]? = some u → W.cell? (a.add j) = some u := by
        intro j u hu
        have hj : j < len * 6 := by
          have := (List.getElem?_eq_some_iff.1 hu).1
          rw [stepsC_len _ _ (by simp)] at this
          simpa using this
        have hi : j / 6 < len := by omega
        have hr : j % 6 < 6 := by omega
        have hdm : j = j / 6 * 6 + j % 6 := by omega
        have G := stepsC_get ((List.range len).map fun i => (q i).1) ((List.range len).map fun i => (q i).2) (j / 6) (j % 6) (by simpa using hi) (by simpa using hi) hr
        simp only [List.getElem_map, List.getElem_range] at G
        rw [hdm] at hu ⊢
        rw [G] at hu
        exact (hq (j / 6) (by omega)).1 _ u hu
      have := rd_of_cells (W := W) (k := 6) hcs hl hm (by rw [stepsC_len _ _ (by simp)]; simp) (fun h0 => ⟨_, by simpa [Addr.add] using (hq 0 (by omega)).1 0 _ rfl⟩) hg
      simpa using this
    · have hi : i < len := by simpa using h1
      simpa using (hq i (by omega)).2
set_option maxRecDepth 100000 in
theorem open_steps_arg {W : World} {base : Nat} {v : Value} {d : DataW H} {p : List MemPlace} (hok : Value.okWide Tryd.prog W .any base 35 v) (h : DataW.Trod enc Tryd.prog W 0 (fun _ => true) held 35 v d p) : ∃ l : List StepZ, StepsAt W v l := by
  obtain ⟨a0, len, cap, rfl⟩ := okWide_slice Tryd.underlying35 hok
  obtain ⟨fuel, hf⟩ := h
  exact steps_of_trod (by simpa [Value.cells] using hf)
set_option maxRecDepth 100000 in
theorem bytes_of_trod {fuel : Nat} {v : Value} {x : DataW H × List MemPlace} (h : DataW.trod enc Tryd.prog W 0 (fun _ => true) held fuel 36 [v] = some x) : ∃ l : List Int, BytR W v l := by
  rcases Go.Deep.open_slice Tryd.underlying36 h with ⟨hcs, hx⟩ | ⟨a, len, cap, m, n, D, Pl, hcs, _, hl, hm, hmm, _, hx⟩
  · simp at hcs
    subst hcs
    exact ⟨[], Rd.nil _ _ _, fun x hx => by cases hx⟩
  · simp at hcs
    simp only [if_true] at hmm
    subst hmm
    have ce : Tryd.prog.cellsOf 5 = 1 := by kernel_rfl
    have each : ∀ i, i < m → ∃ q : Int, W.cell? (a.add i) = some (.int .u8 q) ∧ 0 ≤ q ∧ q < 256 := by
      intro i hi
      obtain ⟨cs', h1, h2⟩ := hx i hi
      rw [ce] at h1
      obtain ⟨_, hlen, hcell⟩ := World.cells?_some h1
      obtain ⟨n0, e0, _, w0⟩ := DataW.trod_int Tryd.underlying5 h2
      subst e0
      have e := hcell 0 (by omega)
      rw [Go.Deep.add_add] at e
      exact ⟨n0, by simpa using e, u8_rng w0⟩
    obtain ⟨q, hq⟩ := Go.Deep.choose_lt each
    refine ⟨(List.range len).map q, ?_, fun x hx => ?_⟩
    · have := rd_of_cells (W := W) (k := 1) (cs := byC ((List.range len).map q)) hcs hl hm (by simp [byC]) (fun h0 => ⟨_, by simpa [Addr.add] using (hq 0 (by omega)).1⟩) (fun j u hu => by
        have hj : j < len := by
          have := (List.getElem?_eq_some_iff.1 hu).1
          simpa [byC] using this
        simp [byC, hj] at hu
        rw [← hu]
        exact (hq j (by omega)).1)
      simpa using this
    · obtain ⟨i, hi, rfl⟩ := List.mem_map.1 hx
      have := List.mem_range.1 hi
      exact (hq i (by omega)).2
set_option maxRecDepth 100000 in
theorem open_bytes_arg {W : World} {base : Nat} {v : Value} {d : DataW H} {p : List MemPlace} (hok : Value.okWide Tryd.prog W .any base 36 v) (h : DataW.Trod enc Tryd.prog W 0 (fun _ => true) held 36 v d p) : ∃ l : List Int, BytR W v l := by
  obtain ⟨a0, len, cap, rfl⟩ := okWide_slice Tryd.underlying36 hok
  obtain ⟨fuel, hf⟩ := h
  exact bytes_of_trod (by simpa [Value.cells] using hf)
end
end Go.Proofs.YtipbkdlekanlmaaDoor
/- Journal, plain: what a sector of a record reads as; what a whole record reads as. No program in sight. -/
namespace Go.Jn
open Go Go.Lab Go.Disk Go.Proofs.YtipbkdlekanlmaaDoor
theorem getN_leN : ∀ (m n : Nat), n < 256 ^ m → getN (leN n m) = (n : Int)
  | 0, n, h => by
    have : n = 0 := by simpa using h
    rw [this]; rfl
  | m + 1, n, h => by
    rw [leN, getN, getN_leN m (n / 256) (by rw [Nat.pow_succ] at h; omega)]
    omega
/-- The parts of a sector's bytes. -/
theorem cut4 {A B C E S : List Int} (hA : A.length = 4) (hB : B.length = 2) (hC : C.length = 2) (hE : E.length = 48) :
    ((A ++ (B ++ (C ++ E))) ++ S).take 56 = A ++ (B ++ (C ++ E)) ∧ ((A ++ (B ++ (C ++ E))) ++ S).drop 56 = S ∧ ((A ++ (B ++ (C ++ E))) ++ S).take 4 = A ∧ (((A ++ (B ++ (C ++ E))) ++ S).drop 4).take 2 = B ∧ (((A ++ (B ++ (C ++ E))) ++ S).drop 6).take 2 = C ∧ ∀ k, (A ++ (B ++ (C ++ E))).drop (8 + k) = E.drop k := by
  have h56 : (A ++ (B ++ (C ++ E))).length = 56 := by simp [hA, hB, hC, hE]
  refine ⟨by rw [List.take_left' h56], by rw [List.drop_left' h56], ?_, ?_, ?_, ?_⟩
  · rw [List.append_assoc, List.take_left' hA]
  · rw [List.append_assoc, List.drop_left' hA, List.append_assoc, List.take_left' hB]
  · rw [show (6 : Nat) = 4 + 2 from rfl, ← List.drop_drop, List.append_assoc, List.drop_left' hA, List.append_assoc, List.drop_left' hB, List.append_assoc, List.take_left' hC]
  · intro k
    rw [show 8 + k = 4 + (2 + (2 + k)) from by omega, ← List.drop_drop, List.drop_left' hA, ← List.drop_drop, List.drop_left' hB, ← List.drop_drop, List.drop_left' hC]
theorem nums_secS (num : Nat) (t : ByteArray) (k : Nat) : nums (secS num t k) = secB num (nums t) k := nums_str' (secB_rng _ _ _ (nums_rng t))
theorem size_secS (num : Nat) (t : ByteArray) (k : Nat) : (secS num t k).size = 64 := by rw [← nums_len, nums_secS, secB_len]
/-- What a sector of a record reads as. -/
theorem unp_sec (num : Nat) (t : ByteArray) (k : Nat) (hn : 1 ≤ num ∧ num ≤ 4096) (ht : t.size ≤ 8000) (hk : 48 * k ≤ t.size) (hk0 : 48 * k = t.size → k = 0) :
    unpZ (secS num t k) = ⟨(num : Int), (k : Int), (t.size : Int) - 48 * (k : Int), t.extract (48 * k) (48 * k + min (t.size - 48 * k) 48), true⟩ := by
  have hrl : ((nums t).drop (48 * k)).length = t.size - 48 * k := by rw [List.length_drop, nums_len]
  obtain ⟨R, hR⟩ : ∃ R, R = (nums t).drop (48 * k) := ⟨_, rfl⟩
  rw [← hR] at hrl
  have hE : (R.take 48 ++ List.replicate (48 - R.length) (0 : Int)).length = 48 := by
    rw [List.length_append, List.length_take, List.length_replicate]
    omega
  obtain ⟨c1, c2, c3, c4, c5, c6⟩ := cut4 (A := leN num 4) (B := leN k 2) (C := leN R.length 2) (E := R.take 48 ++ List.replicate (48 - R.length) 0) (S := (sha56 (headB num k R)).take 8) (leN_len _ _) (leN_len _ _) (leN_len _ _) hE
  have hs : secB num (nums t) k = (leN num 4 ++ (leN k 2 ++ (leN R.length 2 ++ (R.take 48 ++ List.replicate (48 - R.length) 0)))) ++ (sha56 (headB num k R)).take 8 := by
    unfold secB sealB
    rw [← hR]
    rfl
  have e1 : numZ (secB num (nums t) k) = (num : Int) := by unfold numZ; rw [hs, c3, getN_leN 4 num (by omega)]
  have e2 : partNo (secB num (nums t) k) = (k : Int) := by unfold partNo; rw [hs, c4, getN_leN 2 k (by omega)]
  have e3 : leftZ (secB num (nums t) k) = (R.length : Int) := by unfold leftZ; rw [hs, c5, getN_leN 2 R.length (by omega)]
  have e4 : payN (secB num (nums t) k) = min R.length 48 := by unfold payN; rw [e3]; omega
  have hb : ¬ badZ (secB num (nums t) k) := by
    unfold badZ
    rw [e1, e2, e3, e4]
    rintro (h | h | h | h | h | h)
    · rw [hs, c1, c2] at h
      exact h rfl
    · omega
    · omega
    · omega
    · omega
    · rw [hs, c1, c6] at h
      apply h
      by_cases hl : R.length ≤ 48
      · rw [Nat.min_eq_left hl, List.take_of_length_le hl, List.drop_left' rfl]
      · rw [Nat.min_eq_right (by omega), show 48 - R.length = 0 from by omega, List.replicate_zero, List.append_nil, List.drop_of_length_le (by rw [List.length_take]; omega)]
  have hpay : (secS num t k).extract 8 (8 + min R.length 48) = t.extract (48 * k) (48 * k + min (t.size - 48 * k) 48) := by
    apply nums_inj
    rw [nums_extract, nums_extract, nums_secS, hs, Nat.add_sub_cancel_left, Nat.add_sub_cancel_left, ← hR, hrl]
    rw [show (8 : Nat) = 4 + (2 + 2) from rfl, ← List.drop_drop, ← List.drop_drop, List.append_assoc, List.drop_left' (leN_len _ _), List.append_assoc, List.drop_left' (leN_len _ _), List.append_assoc, List.drop_left' (leN_len _ _), List.append_assoc]
    rw [List.take_append_of_le_length (by rw [List.length_take, hrl]; omega), List.take_take]
    congr 1
    omega
  unfold unpZ
  rw [if_neg (by rw [size_secS]; simp), nums_secS, if_neg hb, e1, e2, e3, e4, hpay, hrl]
  congr 1
  omega
theorem unp_zeros : unpZ zeros = part0 := by
  unfold unpZ
  rw [if_neg (by decide), if_pos]
  unfold badZ
  right; left
  decide
theorem sec_ne (num : Nat) (t : ByteArray) (k : Nat) (hn : 1 ≤ num ∧ num ≤ 4096) (ht : t.size ≤ 8000) (hk : 48 * k ≤ t.size) (hk0 : 48 * k = t.size → k = 0) : secS num t k ≠ zeros := by
  intro e
  have h := unp_sec num t k hn ht hk hk0
  rw [e, unp_zeros] at h
  have := congrArg PartZ.ok h
  cases this
/-- The sectors of a record. -/
theorem packL_eq (num : Int) (t : ByteArray) (h1 : 1 ≤ num ∧ num ≤ 4096) (h2 : t.size ≤ 8000) : packL num t = (List.range (cntZ t.size).toNat).map (secS num.toNat t) := by
  have he : packE num t = 0 := by
    unfold packE
    rw [if_neg (by omega), if_neg (by omega)]
  unfold packL
  rw [if_pos he]
  unfold packB
  rw [List.map_map, nums_len]
  rfl
theorem cnt_bounds (t : ByteArray) (h : t.size ≤ 8000) (k : Nat) (hk : k < (cntZ t.size).toNat) : 48 * k ≤ t.size ∧ (48 * k = t.size → k = 0) := by
  unfold cntZ at hk
  rw [if_neg (by omega)] at hk
  omega
theorem cnt_pos (t : ByteArray) (h : t.size ≤ 8000) : 1 ≤ (cntZ t.size).toNat ∧ t.size ≤ 48 * (cntZ t.size).toNat := by
  unfold cntZ
  rw [if_neg (by omega)]
  omega
/-- Part k of a record, as it reads. -/
def partK (num : Nat) (t : ByteArray) (k : Nat) : PartZ := ⟨(num : Int), (k : Int), (t.size : Int) - 48 * (k : Int), t.extract (48 * k) (48 * k + min (t.size - 48 * k) 48), true⟩
theorem recAll_own (num : Nat) (t : ByteArray) : ∀ (m k : Nat), recAll (partK num t 0) k ((List.range' k m).map (partK num t)) = true
  | 0, _ => rfl
  | m + 1, k => by
    rw [List.range'_succ, List.map_cons, recAll, recAll_own num t m (k + 1), Bool.and_true]
    simp [recOk, partK]
theorem pay_own (num : Nat) (t : ByteArray) : ∀ m, payAll ((List.range m).map (partK num t)) = t.extract 0 (min t.size (48 * m))
  | 0 => by
    apply nums_inj
    rw [nums_extract]
    simp [payAll, nums]
  | m + 1 => by
    rw [List.range_succ, List.map_append, List.map_singleton, payAll_snoc, pay_own num t m]
    apply nums_inj
    rw [nums_append, nums_extract, nums_extract]
    show _ ++ nums (t.extract _ _) = _
    rw [nums_extract]
    have hl := nums_len t
    generalize nums t = L at hl ⊢
    rw [← hl]
    simp only [List.drop_zero, Nat.sub_zero, Nat.add_sub_cancel_left]
    by_cases h : L.length ≤ 48 * m
    · rw [Nat.min_eq_left h, Nat.min_eq_left (show L.length - 48 * m ≤ 48 from by omega), show L.length - 48 * m = 0 from by omega, List.take_zero, List.append_nil, Nat.min_eq_left (show L.length ≤ 48 * (m + 1) from by omega)]
    · rw [Nat.min_eq_right (by omega)]
      have e : min L.length (48 * (m + 1)) = 48 * m + min (L.length - 48 * m) 48 := by omega
      rw [e, List.take_add]
/-- A whole record reads as its text. -/
theorem rec_whole (num : Nat) (t : ByteArray) (rest : List PartZ) (ht : t.size ≤ 8000) : recordZ ((List.range (cntZ t.size).toNat).map (partK num t) ++ rest) = (t, cntZ t.size, true) := by
  have hc := cnt_pos t ht
  obtain ⟨n, hn⟩ : ∃ n, n = (cntZ t.size).toNat := ⟨_, rfl⟩
  have hcn : cntZ t.size = (n : Int) := by rw [hn]; have := cntZ_rng t.size; omega
  rw [← hn] at hc ⊢
  have hhd : ((List.range n).map (partK num t) ++ rest).headD part0 = partK num t 0 := by
    obtain ⟨m, rfl⟩ : ∃ m, n = m + 1 := ⟨n - 1, by omega⟩
    rw [List.range_succ_eq_map]
    rfl
  unfold recordZ
  simp only [hhd]
  have hl : (partK num t 0).left = (t.size : Int) := by show (t.size : Int) - 48 * ((0 : Nat) : Int) = _; omega
  rw [hl, hcn, if_neg, Int.toNat_natCast, List.take_left' (by simp), List.range_eq_range', if_pos (recAll_own num t n 0), ← List.range_eq_range', pay_own, Nat.min_eq_left hc.2]
  · congr 1
    apply nums_inj
    rw [nums_extract, List.drop_zero, Nat.sub_zero, List.take_of_length_le (by rw [nums_len]; omega)]
  · rintro (h | h | h)
    · cases h
    · exact h rfl
    · rw [List.length_append, List.length_map, List.length_range] at h
      omega
end Go.Jn
/- Journal, plain: writing sectors on a disk whose power does not fail, and reading them back. No program in sight. -/
namespace Go.Jn
open Go Go.Lab Go.Disk Go.Proofs.YtipbkdlekanlmaaDoor
/-- The power is on, and does not fail. -/
def Dk.Fine (D : Dk) : Prop := D.off = false ∧ D.left = -1
def dirt (x : Sec) (s : ByteArray) : Sec := { x with next := s, dirty := true }
/-- What a sector contains behind a write and a flush. -/
def setl (x : Sec) (s : ByteArray) : Sec := ⟨if x.worn = true then x.text else s, ByteArray.empty, false, x.worn⟩
def zipS (f : Sec → ByteArray → Sec) : List Sec → List ByteArray → List Sec
  | x :: M, s :: r => f x s :: zipS f M r
  | _, _ => []
theorem zipS_len (f : Sec → ByteArray → Sec) : ∀ (M : List Sec) (l : List ByteArray), M.length = l.length → (zipS f M l).length = l.length
  | [], [], _ => rfl
  | [], _ :: _, h => by simp at h
  | _ :: _, [], h => by simp at h
  | x :: M, s :: r, h => by rw [zipS, List.length_cons, List.length_cons, zipS_len f M r (by simpa using h)]
theorem step_fine {D : Dk} (h : Dk.Fine D) : stepE D = 0 ∧ stepD D = D := by
  unfold stepE stepD
  rw [h.2]
  exact ⟨by rw [if_neg (by decide)], by rw [if_neg (by decide), if_neg (by decide)]⟩
theorem isIn_app {A M C : List Sec} {x : Sec} {D : Dk} (hs : D.s = A ++ (x :: (M ++ C))) : D.isIn (A.length : Int) = true := isIn_mk (by rw [hs]; simp)
theorem atS_app (A M : List Sec) (x : Sec) : atS (A ++ (x :: M)) A.length = x := by
  unfold atS
  rw [List.getD_eq_getElem?_getD, List.getElem?_append_right (Nat.le_refl _), Nat.sub_self]
  rfl
theorem writes_fine : ∀ (l : List ByteArray) (A M C : List Sec) (D : Dk), Dk.Fine D → D.s = A ++ (M ++ C) → M.length = l.length → (∀ s ∈ l, s.size = 64) →
    writesZ D (A.length : Int) l = (0, { D with s := A ++ (zipS dirt M l ++ C) })
  | [], A, [], C, D, h, hs, _, _ => by
    rw [writesZ]
    have : D = { D with s := A ++ (zipS dirt [] [] ++ C) } := by
      cases D
      simp only [Dk.mk.injEq, and_true]
      exact hs
    exact Prod.ext rfl this
  | [], _, _ :: _, _, _, _, _, h, _ => by simp at h
  | _ :: _, _, [], _, _, _, _, h, _ => by simp at h
  | s :: r, A, x :: M, C, D, h, hs, hl, hz => by
    have hs' : D.s = A ++ (x :: (M ++ C)) := hs
    have hin := isIn_app (M := M) (C := C) hs
    have hsz := hz s (by simp)
    have hE : writeE D (A.length : Int) s = 0 := by
      unfold writeE
      rw [if_neg (by rw [h.1]; decide), if_neg (by rw [hin]; decide), if_neg (by rw [hsz]; decide), (step_fine h).1]
    have hD : writeD D (A.length : Int) s = { D with s := (A ++ [dirt x s]) ++ (M ++ C) } := by
      unfold writeD
      rw [if_neg (by rw [h.1]; decide), if_neg (by rw [hin]; decide), if_neg (by rw [hsz]; decide), if_neg (by rw [(step_fine h).1]; decide), (step_fine h).2, Int.toNat_natCast]
      have e : writeS D.s A.length s = (A ++ [dirt x s]) ++ (M ++ C) := by
        unfold writeS
        rw [hs', atS_app, List.set_append_right _ _ (Nat.le_refl _), Nat.sub_self, List.set_cons_zero, List.append_assoc]
        rfl
      show ({ D with s := writeS D.s A.length s } : Dk) = _
      rw [e]
    rw [writesZ, if_pos hE, hD]
    have ih := writes_fine r (A ++ [dirt x s]) M C { D with s := (A ++ [dirt x s]) ++ (M ++ C) } h rfl (by simpa using hl) (fun y hy => hz y (by simp [hy]))
    rw [List.length_append, List.length_singleton] at ih
    rw [show (A.length : Int) + 1 = ((A.length + 1 : Nat) : Int) from by omega, ih]
    simp [zipS]
theorem mount_dirt : ∀ (M : List Sec) (l : List ByteArray), M.length = l.length → (∀ s ∈ l, s.size = 64) → (∀ x ∈ M, x.text.size = 64) → mountS (zipS dirt M l) [] = zipS setl M l
  | [], [], _, _, _ => rfl
  | [], _ :: _, h, _, _ => by simp at h
  | _ :: _, [], h, _, _ => by simp at h
  | x :: M, s :: r, h, hz, hx => by
    have ih := mount_dirt M r (by simpa using h) (fun y hy => hz y (by simp [hy])) (fun y hy => hx y (by simp [hy]))
    rw [zipS, zipS, mountS, if_pos (show (dirt x s).dirty = true from rfl)]
    show settleS (dirt x s) (clampP 64) :: mountS (zipS dirt M r) [] = _
    rw [ih]
    congr 1
    have hs := hz s (by simp)
    have ht := hx x (by simp)
    have e : (s.extract 0 64 ++ x.text.extract 64 64) = s := by
      apply nums_inj
      rw [nums_append, nums_extract, nums_extract, List.drop_zero, Nat.sub_zero, Nat.sub_self, List.take_zero, List.append_nil, List.take_of_length_le (by rw [nums_len, hs]; exact Nat.le_refl _)]
    show (⟨if x.worn = true then x.text else s.extract 0 64 ++ x.text.extract 64 64, _, _, _⟩ : Sec) = _
    rw [e]
    rfl
theorem checks_fine : ∀ (l : List ByteArray) (A M C : List Sec) (D : Dk) (b : Bool), D.off = false → D.s = A ++ (M ++ C) → M.length = l.length → (∀ x ∈ M, x.dirty = false) →
    checksZ D (A.length : Int) l b = (0, b && decide (M.map (·.text) = l))
  | [], _, [], _, _, b, _, _, _, _ => by simp [checksZ]
  | [], _, _ :: _, _, _, _, _, _, h, _ => by simp at h
  | _ :: _, _, [], _, _, _, _, _, h, _ => by simp at h
  | s :: r, A, x :: M, C, D, b, h, hs, hl, hd => by
    have hs' : D.s = A ++ (x :: (M ++ C)) := hs
    have hin := isIn_app (M := M) (C := C) hs
    have hr : readZ D (A.length : Int) = (x.text, 0) := by
      unfold readZ
      rw [if_neg (by rw [h]; decide), if_neg (by rw [hin]; decide), Int.toNat_natCast, hs', atS_app, if_neg (by rw [hd x (by simp)]; decide)]
    rw [checksZ, hr, if_pos rfl]
    have ih := checks_fine r (A ++ [x]) M C D (b && decide (s = x.text)) h (by rw [hs]; simp) (by simpa using hl) (fun y hy => hd y (by simp [hy]))
    rw [List.length_append, List.length_singleton] at ih
    rw [show (A.length : Int) + 1 = ((A.length + 1 : Nat) : Int) from by omega, ih]
    congr 1
    rw [List.map_cons]
    by_cases h1 : s = x.text
    · by_cases h2 : M.map (·.text) = r
      · simp [h1, h2]
      · simp [h1, h2]
    · have : ¬ x.text = s := fun e => h1 e.symm
      simp [h1, this]
/-- write, on a disk that is clean and whose power does not fail. -/
theorem put_fine (l : List ByteArray) (A M C : List Sec) (D : Dk) (h : Dk.Fine D) (hs : D.s = A ++ (M ++ C)) (hl : M.length = l.length) (hz : ∀ s ∈ l, s.size = 64) (hx : ∀ x ∈ D.s, x.text.size = 64 ∧ x.dirty = false) :
    putZ D (A.length : Int) l = (0, decide ((zipS setl M l).map (·.text) = l), { D with s := A ++ (zipS setl M l ++ C) }) := by
  have hw := writes_fine l A M C D h hs hl hz
  have hf : flushE { D with s := A ++ (zipS dirt M l ++ C) } = 0 := by
    unfold flushE
    rw [if_neg (by show ¬ D.off = true; rw [h.1]; decide)]
    exact (step_fine (D := { D with s := A ++ (zipS dirt M l ++ C) }) h).1
  have hA : ∀ x ∈ A, x.dirty = false := fun x hx' => (hx x (by rw [hs]; simp [hx'])).2
  have hC : ∀ x ∈ C, x.dirty = false := fun x hx' => (hx x (by rw [hs]; simp [hx'])).2
  have hM : ∀ x ∈ M, x.text.size = 64 := fun x hx' => (hx x (by rw [hs]; simp [hx'])).1
  have hfd : flushD { D with s := A ++ (zipS dirt M l ++ C) } = { D with s := A ++ (zipS setl M l ++ C) } := by
    unfold flushD
    rw [if_neg (by show ¬ D.off = true; rw [h.1]; decide)]
    rw [(step_fine (D := { D with s := A ++ (zipS dirt M l ++ C) }) h).1, (step_fine (D := { D with s := A ++ (zipS dirt M l ++ C) }) h).2, if_neg (by decide)]
    show ({ D with s := mountS (A ++ (zipS dirt M l ++ C)) [] } : Dk) = _
    rw [mountS_append, mountS_clean A _ hA, mountS_append, mountS_clean C _ hC, List.drop_nil, mount_dirt M l hl hz hM]
  have hcl : ∀ x ∈ zipS setl M l, x.dirty = false := by
    have key : ∀ (M : List Sec) (l : List ByteArray), ∀ x ∈ zipS setl M l, x.dirty = false := by
      intro M
      induction M with
      | nil => intro l x hx; cases l <;> simp [zipS] at hx
      | cons y M ih =>
        intro l x hx
        cases l with
        | nil => simp [zipS] at hx
        | cons s r =>
          rw [zipS] at hx
          rcases List.mem_cons.1 hx with rfl | hx
          · rfl
          · exact ih r x hx
    exact key M l
  have hc := checks_fine l A (zipS setl M l) C { D with s := A ++ (zipS setl M l ++ C) } true h.1 rfl (zipS_len _ _ _ hl) hcl
  unfold putZ
  rw [hw]
  simp only
  rw [if_neg (by simp), hf, if_neg (by simp), hfd, hc, Bool.true_and]
end Go.Jn
/- Journal, plain: what is found on a disk whose sectors are records one behind the other, some of them with sectors that are not good. No program in sight. -/
namespace Go.Jn
open Go Go.Lab Go.Disk Go.Proofs.YtipbkdlekanlmaaDoor
/-- The sectors of one record, as they are on the disk. -/
structure Seg where
  num : Nat
  t : ByteArray
  c : List ByteArray
def Seg.n (g : Seg) : Nat := (cntZ g.t.size).toNat
def Seg.full (g : Seg) : List ByteArray := (List.range g.n).map (secS g.num g.t)
structure Seg.Ok (g : Seg) : Prop where
  n1 : 1 ≤ g.num ∧ g.num ≤ 4096
  sz : g.t.size ≤ 8000
  len : g.c.length = g.n
  each : ∀ (k : Nat) (h : k < g.c.length), g.c[k] = secS g.num g.t k ∨ (unpZ g.c[k]).ok = false
def Seg.whole (g : Seg) : Bool := decide (g.c = g.full)
theorem Seg.Ok.sec {g : Seg} (h : g.Ok) (k : Nat) (hk : k < g.n) : unpZ (secS g.num g.t k) = partK g.num g.t k := by
  have hb := cnt_bounds g.t h.sz k hk
  exact unp_sec g.num g.t k h.n1 h.sz hb.1 hb.2
def addSegs : JZ → List Seg → JZ
  | j, [] => j
  | j, g :: r => addSegs (if g.whole = true then foundZ j (g.num : Int) g.t else j) r
/-- The records of l, found from j on, lead to j'. -/
def Ends (j : JZ) (l : List PartZ) (j' : JZ) : Prop := ∀ f, l.length < f → recsZ f j l = j'
theorem ends_nil (j : JZ) : Ends j [] j := by
  intro f hf
  cases f with
  | zero => omega
  | succ f => rfl
theorem ends_skip {j j' : JZ} {p : PartZ} {r : List PartZ} (h : (recordZ (p :: r)).2.2 = false) (hr : Ends j r j') : Ends j (p :: r) j' := by
  intro f hf
  cases f with
  | zero => omega
  | succ f =>
    rw [recsZ, if_neg (by rw [h]; decide)]
    exact hr f (by rw [List.length_cons] at hf; omega)
theorem ends_found {j j' : JZ} {p : PartZ} {r : List PartZ} {t : ByteArray} {n : Int} (h : recordZ (p :: r) = (t, n, true)) (hn : 1 ≤ n) (hr : Ends (foundZ j p.num t) ((p :: r).drop n.toNat) j') : Ends j (p :: r) j' := by
  intro f hf
  cases f with
  | zero => omega
  | succ f =>
    rw [recsZ, h, if_pos rfl]
    exact hr f (by rw [List.length_drop]; rw [List.length_cons] at hf ⊢; omega)
theorem rec_bad (p : PartZ) (r : List PartZ) (h : p.ok = false ∨ p.part ≠ 0) : (recordZ (p :: r)).2.2 = false := by
  have e : recordZ (p :: r) = if p.ok = false ∨ p.part ≠ 0 ∨ ((p :: r).length : Int) < cntZ p.left then (ByteArray.empty, 0, false) else if recAll p 0 ((p :: r).take (cntZ p.left).toNat) = true then (payAll ((p :: r).take (cntZ p.left).toNat), cntZ p.left, true) else (ByteArray.empty, 0, false) := rfl
  rw [e, if_pos (by
    rcases h with h | h
    · exact .inl h
    · exact .inr (.inl h))]
theorem ends_blanks (j : JZ) : ∀ B : List PartZ, (∀ p ∈ B, p.ok = false) → Ends j B j
  | [], _ => ends_nil j
  | p :: r, h => ends_skip (rec_bad p r (.inl (h p (by simp)))) (ends_blanks j r (fun q hq => h q (by simp [hq])))
theorem ends_whole {j j' : JZ} (num : Nat) (t : ByteArray) (rest : List PartZ) (ht : t.size ≤ 8000) (h : Ends (foundZ j (num : Int) t) rest j') : Ends j ((List.range (cntZ t.size).toNat).map (partK num t) ++ rest) j' := by
  have hc := cnt_pos t ht
  have hr := rec_whole num t rest ht
  obtain ⟨n, hn⟩ : ∃ n, n = (cntZ t.size).toNat := ⟨_, rfl⟩
  have hcn : cntZ t.size = (n : Int) := by rw [hn]; have := cntZ_rng t.size; omega
  rw [← hn] at hc hr ⊢
  rw [hcn] at hr
  obtain ⟨m, rfl⟩ : ∃ m, n = m + 1 := ⟨n - 1, by omega⟩
  have hd : ((List.range (m + 1)).map (partK num t) ++ rest).drop (((m + 1 : Nat) : Int)).toNat = rest := by
    rw [Int.toNat_natCast, List.drop_left' (by simp)]
  rw [List.range_succ_eq_map] at hr hd ⊢
  exact ends_found hr (by omega) (show Ends _ (((0 :: List.map Nat.succ (List.range m)).map (partK num t) ++ rest).drop (((m + 1 : Nat) : Int)).toNat) j' from by rw [hd]; exact h)
theorem recAll_mem (f : PartZ) : ∀ (l : List PartZ) (k : Nat), recAll f k l = true → ∀ p ∈ l, p.ok = true
  | [], _, _, p, hp => by cases hp
  | q :: r, k, h, p, hp => by
    rw [recAll, Bool.and_eq_true] at h
    rcases List.mem_cons.1 hp with rfl | hp
    · unfold recOk at h
      simp only [Bool.and_eq_true] at h
      exact h.1.1
    · exact recAll_mem f r (k + 1) h.2 p hp
theorem Seg.Ok.bad {g : Seg} (h : g.Ok) (hw : g.whole = false) : ∃ (k : Nat) (hk : k < g.c.length), (unpZ g.c[k]).ok = false := by
  by_cases hx : ∃ (k : Nat) (hk : k < g.c.length), (unpZ g.c[k]).ok = false
  · exact hx
  · exfalso
    have hf : g.c = g.full := by
      apply List.ext_getElem
      · unfold Seg.full; rw [h.len, List.length_map, List.length_range]
      · intro k h1 h2
        rcases h.each k h1 with h3 | h3
        · rw [h3]; simp [Seg.full]
        · exact absurd ⟨k, h1, h3⟩ hx
    unfold Seg.whole at hw
    rw [decide_eq_true hf] at hw
    cases hw
theorem ends_broken {j j' : JZ} {g : Seg} (h : g.Ok) (hw : g.whole = false) (rest : List PartZ) (hr : Ends j rest j') : ∀ (d i : Nat), i + d = g.c.length → Ends j ((g.c.drop i).map unpZ ++ rest) j'
  | 0, i, hi => by rw [List.drop_of_length_le (by omega)]; exact hr
  | d + 1, i, hi => by
    have hil : i < g.c.length := by omega
    have ih := ends_broken h hw rest hr d (i + 1) (by omega)
    rw [List.drop_eq_getElem_cons hil, List.map_cons, List.cons_append]
    refine ends_skip ?_ ih
    rcases h.each i hil with h1 | h1
    · rw [h1, h.sec i (by rw [← h.len]; exact hil)]
      by_cases hi0 : i = 0
      · subst hi0
        obtain ⟨k, hk, hbad⟩ := h.bad hw
        have e : ∀ (p : PartZ) (r : List PartZ), recordZ (p :: r) = if p.ok = false ∨ p.part ≠ 0 ∨ ((p :: r).length : Int) < cntZ p.left then (ByteArray.empty, 0, false) else if recAll p 0 ((p :: r).take (cntZ p.left).toNat) = true then (payAll ((p :: r).take (cntZ p.left).toNat), cntZ p.left, true) else (ByteArray.empty, 0, false) := fun _ _ => rfl
        rw [e]
        split
        · rfl
        · rw [if_neg]
          intro hA
          have hlf : (partK g.num g.t 0).left = (g.t.size : Int) := by show (g.t.size : Int) - 48 * ((0 : Nat) : Int) = _; omega
          rw [hlf] at hA
          have hmem : unpZ g.c[k] ∈ (partK g.num g.t 0 :: ((g.c.drop (0 + 1)).map unpZ ++ rest)).take (cntZ (g.t.size : Int)).toNat := by
            have e2 : partK g.num g.t 0 :: ((g.c.drop (0 + 1)).map unpZ ++ rest) = g.c.map unpZ ++ rest := by
              rw [← h.sec 0 (by rw [← h.len]; exact hil), ← h1, ← List.cons_append, ← List.map_cons, ← List.drop_eq_getElem_cons hil, List.drop_zero]
            rw [e2, List.take_left' (by rw [List.length_map, h.len]; rfl)]
            exact List.mem_map_of_mem (List.getElem_mem hk)
          have := recAll_mem _ _ _ hA _ hmem
          rw [hbad] at this
          cases this
      · exact rec_bad _ _ (.inr (by show ((i : Nat) : Int) ≠ 0; omega))
    · exact rec_bad _ _ (.inl h1)
theorem Seg.Ok.parts {g : Seg} (h : g.Ok) (hw : g.whole = true) : g.c.map unpZ = (List.range (cntZ g.t.size).toNat).map (partK g.num g.t) := by
  have hc : g.c = g.full := of_decide_eq_true hw
  rw [hc]
  unfold Seg.full
  rw [List.map_map]
  refine List.map_congr_left fun k hk => ?_
  exact h.sec k (List.mem_range.1 hk)
theorem ends_segs : ∀ (segs : List Seg) (j : JZ) (B : List ByteArray), (∀ g ∈ segs, g.Ok) → (∀ s ∈ B, (unpZ s).ok = false) → Ends j ((segs.flatMap (·.c) ++ B).map unpZ) (addSegs j segs)
  | [], j, B, _, hB => by
    rw [List.flatMap_nil, List.nil_append]
    refine ends_blanks j _ (fun p hp => ?_)
    obtain ⟨s, hs, rfl⟩ := List.mem_map.1 hp
    exact hB s hs
  | g :: r, j, B, hg, hB => by
    have h := hg g (by simp)
    rw [List.flatMap_cons, List.append_assoc, List.map_append, addSegs]
    cases hw : g.whole with
    | true =>
      rw [h.parts hw, if_pos rfl]
      exact ends_whole g.num g.t _ h.sz (ends_segs r _ B (fun q hq => hg q (by simp [hq])) hB)
    | false =>
      rw [if_neg (by decide)]
      have := ends_broken h hw _ (ends_segs r j B (fun q hq => hg q (by simp [hq])) hB) g.c.length 0 (by omega)
      rw [List.drop_zero] at this
      exact this
theorem addSegs_nums : ∀ (segs : List Seg) (j : JZ), (segs.map (fun g => (g.num : Int))).Pairwise (· < ·) → (∀ g ∈ segs, ∀ x ∈ j.nums, x < (g.num : Int)) →
    (addSegs j segs).nums = j.nums ++ (segs.filter (·.whole)).map (fun g => (g.num : Int)) ∧ (addSegs j segs).texts = j.texts ++ (segs.filter (·.whole)).map (·.t)
  | [], j, _, _ => by simp [addSegs]
  | g :: r, j, hp, hj => by
    rw [List.map_cons, List.pairwise_cons] at hp
    rw [addSegs, List.filter_cons]
    cases hw : g.whole with
    | true =>
      have hn : (g.num : Int) ∉ j.nums := fun h => by
        have := hj g (by simp) _ h
        omega
      have hf : foundZ j (g.num : Int) g.t = { j with nums := j.nums ++ [(g.num : Int)], texts := j.texts ++ [g.t] } := by unfold foundZ; rw [if_neg hn]
      rw [if_pos rfl, if_pos rfl, hf]
      obtain ⟨h1, h2⟩ := addSegs_nums r { j with nums := j.nums ++ [(g.num : Int)], texts := j.texts ++ [g.t] } hp.2 (fun q hq x hx => by
        rcases List.mem_append.1 hx with hx | hx
        · exact hj q (by simp [hq]) x hx
        · rw [List.mem_singleton.1 hx]
          exact hp.1 _ (List.mem_map_of_mem hq))
      rw [h1, h2]
      simp
    | false =>
      rw [if_neg (by decide), if_neg (by decide)]
      exact addSegs_nums r j hp.2 (fun q hq x hx => hj q (by simp [hq]) x hx)
theorem scan_keeps : ∀ (l : List ByteArray) (j : JZ) (k : Nat), (scanAll j k l).nums = j.nums ∧ (scanAll j k l).texts = j.texts
  | [], _, _ => ⟨rfl, rfl⟩
  | s :: r, j, k => by
    rw [scanAll]
    exact scan_keeps r (scanZ j k s) (k + 1)
/-- The journal of such sectors. -/
theorem journal_segs (segs : List Seg) (B : List ByteArray) (hg : ∀ g ∈ segs, g.Ok) (hB : ∀ s ∈ B, (unpZ s).ok = false) (hp : (segs.map (fun g => (g.num : Int))).Pairwise (· < ·)) :
    (journalZ (segs.flatMap (·.c) ++ B)).nums = (segs.filter (·.whole)).map (fun g => (g.num : Int)) ∧ (journalZ (segs.flatMap (·.c) ++ B)).texts = (segs.filter (·.whole)).map (·.t) := by
  have hs := scan_keeps (segs.flatMap (·.c) ++ B) jz0 0
  have he := ends_segs segs (scanAll jz0 0 (segs.flatMap (·.c) ++ B)) B hg hB ((segs.flatMap (·.c) ++ B).length + 1) (by rw [List.length_map]; omega)
  unfold journalZ
  rw [he]
  have hn : (scanAll jz0 0 (segs.flatMap (·.c) ++ B)).nums = [] := hs.1
  have ht : (scanAll jz0 0 (segs.flatMap (·.c) ++ B)).texts = [] := hs.2
  have h := addSegs_nums segs (scanAll jz0 0 (segs.flatMap (·.c) ++ B)) hp (fun g _ x hx => by rw [hn] at hx; cases hx)
  rw [hn, ht] at h
  exact h
end Go.Jn
