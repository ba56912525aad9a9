/- Journal: the code's Unpack. -/
import Derived.Test.YtipbkdlekanlmaaGreatDoorZr16
import Derived.Test.YtipbkdlekanlmaaGreatDoorZr12
import Derived.Test.YtipbkdlekanlmaaGreatDoorZr04
namespace Go.Proofs.YtipbkdlekanlmaaGreatDoor
open Go.RowKit Go.Lab Go.Jn Go.Disk
attribute [local go_sem] Oper.semAt_some
set_option maxRecDepth 100000
theorem results_tmp5 {fn : Func} {t u v x y : Tmp} (h : fn.results = #[.tmp t, .tmp u, .tmp v, .tmp x, .tmp y]) (tmps : Array Value) (P : Program) (w : World) :
    (results fn tmps).run P w = .ok (.tuple #[tmps.getD t undef, tmps.getD u undef, tmps.getD v undef, tmps.getD x undef, tmps.getD y undef]) w := by
  simp [results, h]
theorem zero_part (w : World) : (zeroValue 94).run Tryz.prog w = .ok (.agg (partC part0)) w := by kernel_rfl
/-- What Unpack answers. -/
def unpV (p : PartZ) : Value := .tuple #[.int .i64 p.num, .int .i64 p.part, .int .i64 p.left, .string p.pay, .bool p.ok]
set_option maxHeartbeats 4000000 in
theorem unpack5_any (s : ByteArray) (w : World) (hk : w.rangeAt 2 0 (u32C ks0)) : Calls Tryz.prog 41 #[.string s] w fun e w' => e = .returned (unpV (unpZ s)) ∧ Below w.heap.size w w' := by
  have HU := hidep (unpack_any s w hk)
  obtain ⟨p, hp⟩ : ∃ p, p = unpZ s := ⟨_, rfl⟩
  rw [← hp] at HU ⊢
  clear hp hk
  go_enter Tryz.func41, Tryz.ntmps41
  go_upto_region 1 with (fail)
  refine wp_region_lit ?_
  refine wpList_value rfl (v := .string s) (w' := w) (by kernel_rfl) ?_
  refine wpList_enter rfl 49 #[.string s] (by kernel_rfl) HU.out ?_
  intro w1 hb1
  refine wpList_alloc_row zero_part _ rfl rfl ?_
  refine wpList_store_last (t := 94) (c := partC part0) (c' := partC p) w1 row_part.2 rfl (part_one p) rfl _ _ rfl (by kernel_rfl) (by kernel_rfl) ?_
  refine wpList_nil ?_
  apply_assumption
  refine wp_abs (fun X => X.heap[w1.heap.size]? = some (.cells (partC p) 94) ∧ Below w.heap.size w X) ⟨heap_alloc_new _ _, hb1.alloc hb1.size _⟩ ?_
  obtain ⟨E, hE⟩ : ∃ E, E = w1.heap.size := ⟨_, rfl⟩
  rw [← hE]
  clear hE hb1
  rintro X ⟨hqE, hbX⟩
  have HCV := hidep (fun Y (hY : Below X.heap.size X Y) => box5p (below_push hY hqE))
  refine wp_seq ?_
  refine wp_region_noPanic (wp_region_held_drew (S := (fun Y => Below X.heap.size X Y)) (by kernel_rfl) ?hS41r2n0 (fun hHeld => ?hR41r2n0))
  case hS41r2n0 => ((try dsimp only); (exact (Below.refl _ _).drew))
  refine wpAnyH_take (i := 0) (v := ?v41r2n0q1) rfl (by kernel_rfl) (by kernel_rfl) (by kernel_rfl) (fun _ _ _ h => h) (Or.inl ⟨by kernel_rfl, ?hy41r2n0q1⟩) (by assumption) ?hr41r2n0q1
  case hy41r2n0q1 => (intro w hSw; (try dsimp only at hSw); (obtain ⟨c0, c1, c2, c3, c4⟩ := HCV.out w hSw); first | (go_simp; done) | (go_simp; with_reducible rfl))
  refine wpAnyH_take (i := 1) (v := ?v41r2n0q2) rfl (by kernel_rfl) (by kernel_rfl) (by kernel_rfl) (fun _ _ _ h => h) (Or.inl ⟨by kernel_rfl, ?hy41r2n0q2⟩) (by assumption) ?hr41r2n0q2
  case hy41r2n0q2 => (intro w hSw; (try dsimp only at hSw); (obtain ⟨c0, c1, c2, c3, c4⟩ := HCV.out w hSw); first | (go_simp; done) | (go_simp; with_reducible rfl))
  refine wpAnyH_take (i := 2) (v := ?v41r2n0q3) rfl (by kernel_rfl) (by kernel_rfl) (by kernel_rfl) (fun _ _ _ h => h) (Or.inl ⟨by kernel_rfl, ?hy41r2n0q3⟩) (by assumption) ?hr41r2n0q3
  case hy41r2n0q3 => (intro w hSw; (try dsimp only at hSw); (obtain ⟨c0, c1, c2, c3, c4⟩ := HCV.out w hSw); first | (go_simp; done) | (go_simp; with_reducible rfl))
  refine wpAnyH_take (i := 3) (v := ?v41r2n0q4) rfl (by kernel_rfl) (by kernel_rfl) (by kernel_rfl) (fun _ _ _ h => h) (Or.inl ⟨by kernel_rfl, ?hy41r2n0q4⟩) (by assumption) ?hr41r2n0q4
  case hy41r2n0q4 => (intro w hSw; (try dsimp only at hSw); (obtain ⟨c0, c1, c2, c3, c4⟩ := HCV.out w hSw); first | (go_simp; done) | (go_simp; with_reducible rfl))
  refine wpAnyH_take (i := 4) (v := ?v41r2n0q5) rfl (by kernel_rfl) (by kernel_rfl) (by kernel_rfl) (fun _ _ _ h => h) (Or.inl ⟨by kernel_rfl, ?hy41r2n0q5⟩) (by assumption) ?hr41r2n0q5
  case hy41r2n0q5 => (intro w hSw; (try dsimp only at hSw); (obtain ⟨c0, c1, c2, c3, c4⟩ := HCV.out w hSw); first | (go_simp; done) | (go_simp; with_reducible rfl))
  refine wpAnyH_take (i := 5) (v := ?v41r2n0q6) rfl (by kernel_rfl) (by kernel_rfl) (by kernel_rfl) (fun _ _ _ h => h) (Or.inl ⟨by kernel_rfl, ?hy41r2n0q6⟩) (by assumption) ?hr41r2n0q6
  case hy41r2n0q6 => (intro w hSw; (try dsimp only at hSw); (obtain ⟨c0, c1, c2, c3, c4⟩ := HCV.out w hSw); first | (go_simp; done) | (go_simp; with_reducible rfl))
  refine wpAnyH_take (i := 6) (v := ?v41r2n0q7) rfl (by kernel_rfl) (by kernel_rfl) (by kernel_rfl) (fun _ _ _ h => h) (Or.inl ⟨by kernel_rfl, ?hy41r2n0q7⟩) (by assumption) ?hr41r2n0q7
  case hy41r2n0q7 => (intro w hSw; (try dsimp only at hSw); (obtain ⟨c0, c1, c2, c3, c4⟩ := HCV.out w hSw); first | (go_simp; done) | (go_simp; with_reducible rfl))
  refine wpAnyH_take (i := 7) (v := ?v41r2n0q8) rfl (by kernel_rfl) (by kernel_rfl) (by kernel_rfl) (fun _ _ _ h => h) (Or.inl ⟨by kernel_rfl, ?hy41r2n0q8⟩) (by assumption) ?hr41r2n0q8
  case hy41r2n0q8 => (intro w hSw; (try dsimp only at hSw); (obtain ⟨c0, c1, c2, c3, c4⟩ := HCV.out w hSw); first | (go_simp; done) | (go_simp; with_reducible rfl))
  refine wpAnyH_take (i := 8) (v := ?v41r2n0q9) rfl (by kernel_rfl) (by kernel_rfl) (by kernel_rfl) (fun _ _ _ h => h) (Or.inl ⟨by kernel_rfl, ?hy41r2n0q9⟩) (by assumption) ?hr41r2n0q9
  case hy41r2n0q9 => (intro w hSw; (try dsimp only at hSw); (obtain ⟨c0, c1, c2, c3, c4⟩ := HCV.out w hSw); first | (go_simp; done) | (go_simp; with_reducible rfl))
  refine wpAnyH_take (i := 9) (v := ?v41r2n0q10) rfl (by kernel_rfl) (by kernel_rfl) (by kernel_rfl) (fun _ _ _ h => h) (Or.inl ⟨by kernel_rfl, ?hy41r2n0q10⟩) (by assumption) ?hr41r2n0q10
  case hy41r2n0q10 => (intro w hSw; (try dsimp only at hSw); (obtain ⟨c0, c1, c2, c3, c4⟩ := HCV.out w hSw); first | (go_simp; done) | (go_simp; with_reducible rfl))
  refine wpAnyH_take (i := 10) (v := ?v41r2n0q11) rfl (by kernel_rfl) (by kernel_rfl) (by kernel_rfl) (fun _ _ _ h => h) (Or.inl ⟨by kernel_rfl, ?hy41r2n0q11⟩) (by assumption) ?hr41r2n0q11
  case hy41r2n0q11 => (intro w hSw; (try dsimp only at hSw); (obtain ⟨c0, c1, c2, c3, c4⟩ := HCV.out w hSw); first | (go_simp; done) | (go_simp; with_reducible rfl))
  refine wpAnyH_take (i := 11) (v := ?v41r2n0q12) rfl (by kernel_rfl) (by kernel_rfl) (by kernel_rfl) (fun _ _ _ h => h) (Or.inl ⟨by kernel_rfl, ?hy41r2n0q12⟩) (by assumption) ?hr41r2n0q12
  case hy41r2n0q12 => (intro w hSw; (try dsimp only at hSw); (obtain ⟨c0, c1, c2, c3, c4⟩ := HCV.out w hSw); first | (go_simp; done) | (go_simp; with_reducible rfl))
  refine wpAnyH_take (i := 12) (v := ?v41r2n0q13) rfl (by kernel_rfl) (by kernel_rfl) (by kernel_rfl) (fun _ _ _ h => h) (Or.inl ⟨by kernel_rfl, ?hy41r2n0q13⟩) (by assumption) ?hr41r2n0q13
  case hy41r2n0q13 => (intro w hSw; (try dsimp only at hSw); (obtain ⟨c0, c1, c2, c3, c4⟩ := HCV.out w hSw); first | (go_simp; done) | (go_simp; with_reducible rfl))
  refine wpAnyH_take (i := 13) (v := ?v41r2n0q14) rfl (by kernel_rfl) (by kernel_rfl) (by kernel_rfl) (fun _ _ _ h => h) (Or.inl ⟨by kernel_rfl, ?hy41r2n0q14⟩) (by assumption) ?hr41r2n0q14
  case hy41r2n0q14 => (intro w hSw; (try dsimp only at hSw); (obtain ⟨c0, c1, c2, c3, c4⟩ := HCV.out w hSw); first | (go_simp; done) | (go_simp; with_reducible rfl))
  refine wpAnyH_take (i := 14) (v := ?v41r2n0q15) rfl (by kernel_rfl) (by kernel_rfl) (by kernel_rfl) (fun _ _ _ h => h) (Or.inl ⟨by kernel_rfl, ?hy41r2n0q15⟩) (by assumption) ?hr41r2n0q15
  case hy41r2n0q15 => (intro w hSw; (try dsimp only at hSw); (obtain ⟨c0, c1, c2, c3, c4⟩ := HCV.out w hSw); first | (go_simp; done) | (go_simp; with_reducible rfl))
  refine wpAnyH_done (by kernel_rfl) ?_ _
  clear hHeld
  refine NoPanic.normal ?_
  (try dsimp only [Exit.inBlock, Exit.then])
  refine wp_ret ?_
  show bodyPost Tryz.prog Tryz.f41 (fun e w' => e = .returned (unpV p) ∧ Below w.heap.size w w') Exit.ret _ _
  refine bodyPost_ret (P := Tryz.prog) (fn := Tryz.f41) (results_tmp5 rfl _ _ _) (by kernel_rfl) ?_
  exact ⟨by kernel_rfl, hbX.drew⟩
end Go.Proofs.YtipbkdlekanlmaaGreatDoor
/- Journal, plain: records out of sectors, the journal of a disk, what Append does. No program in sight. -/
namespace Go.Jn
open Go Go.Lab Go.Disk Go.Proofs.YtipbkdlekanlmaaGreatDoor
/-- Part k of a record whose first part is f. -/
def recOk (f : PartZ) (k : Nat) (p : PartZ) : Bool := p.ok && (decide (p.num = f.num) && (decide (p.part = (k : Int)) && decide (p.left = f.left - 48 * (k : Int))))
def recAll (f : PartZ) : Nat → List PartZ → Bool
  | _, [] => true
  | k, p :: r => recOk f k p && recAll f (k + 1) r
def payAll (l : List PartZ) : ByteArray := l.foldl (fun t p => t ++ p.pay) ByteArray.empty
/-- The record that begins with some sectors: its text, how many sectors these are, whether there is one. -/
def recordZ (l : List PartZ) : ByteArray × Int × Bool :=
  let f := l.headD part0
  let n := cntZ f.left
  if f.ok = false ∨ f.part ≠ 0 ∨ (l.length : Int) < n then (ByteArray.empty, 0, false)
  else if recAll f 0 (l.take n.toNat) = true then (payAll (l.take n.toNat), n, true) else (ByteArray.empty, 0, false)
theorem recAll_split (f : PartZ) : ∀ (l : List PartZ) (k i : Nat), recAll f k l = (recAll f k (l.take i) && recAll f (k + i) (l.drop i))
  | [], k, i => by simp [recAll]
  | p :: r, k, 0 => by simp [recAll]
  | p :: r, k, i + 1 => by
    rw [List.take_succ_cons, List.drop_succ_cons, recAll, recAll, recAll_split f r (k + 1) i, Bool.and_assoc, show k + 1 + i = k + (i + 1) from by omega]
theorem payAll_snoc (l : List PartZ) (p : PartZ) : payAll (l ++ [p]) = payAll l ++ p.pay := by simp [payAll]
theorem take_succ' (l : List PartZ) (i : Nat) (h : i < l.length) : l.take (i + 1) = l.take i ++ [l[i]] := by
  rw [List.take_add_one, List.getElem?_eq_getElem h]
  rfl
theorem rec_snoc (f : PartZ) (l : List PartZ) (i : Nat) (h : i < l.length) : recAll f 0 (l.take (i + 1)) = (recAll f 0 (l.take i) && recOk f i l[i]) := by
  rw [recAll_split f (l.take (i + 1)) 0 i, List.take_take, Nat.min_eq_left (by omega), take_succ' l i h, List.drop_append, List.length_take, Nat.min_eq_left (by omega), List.drop_eq_nil_of_le (by rw [List.length_take]; omega), Nat.sub_self, List.drop_zero, List.nil_append, Nat.zero_add, recAll, recAll, Bool.and_true]
theorem rec_fail (f : PartZ) (l : List PartZ) (i m : Nat) (h : i < l.length) (him : i < m) (hf : recOk f i l[i] = false) : recAll f 0 (l.take m) = false := by
  rw [recAll_split f (l.take m) 0 (i + 1), List.take_take, Nat.min_eq_left (by omega), rec_snoc f l i h, hf, Bool.and_false, Bool.false_and]
theorem pay_snoc (l : List PartZ) (i : Nat) (h : i < l.length) : payAll (l.take (i + 1)) = payAll (l.take i) ++ l[i].pay := by rw [take_succ' l i h, payAll_snoc]
theorem pay_size (l : List PartZ) (hr : ∀ p ∈ l, p.pay.size ≤ 48) : ∀ i, i ≤ l.length → (payAll (l.take i)).size ≤ 48 * i
  | 0, _ => by simp [payAll]
  | i + 1, h => by
    rw [pay_snoc l i h, ByteArray.size_append]
    have := pay_size l hr i (by omega)
    have := hr _ (List.getElem_mem (show i < l.length from h))
    omega
theorem unpZ_rng (s : ByteArray) : 0 ≤ (unpZ s).num ∧ (unpZ s).num ≤ 4096 ∧ 0 ≤ (unpZ s).part ∧ (unpZ s).part < 65536 ∧ 0 ≤ (unpZ s).left ∧ (unpZ s).left < 65536 ∧ (unpZ s).pay.size ≤ 48 := by
  unfold unpZ
  split
  · decide
  · split
    · decide
    · rename_i h1 h2
      have hs : s.size = 64 := by omega
      have hr := nums_rng s
      have hl : (nums s).length = 64 := by rw [nums_len, hs]
      have e1 := getN_rng ((nums s).take 4) (fun x hx => hr x (List.mem_of_mem_take hx))
      have e2 := getN_rng (((nums s).drop 4).take 2) (fun x hx => hr x (List.mem_of_mem_drop (List.mem_of_mem_take hx)))
      have e3 := getN_rng (((nums s).drop 6).take 2) (fun x hx => hr x (List.mem_of_mem_drop (List.mem_of_mem_take hx)))
      have l2 : (((nums s).drop 4).take 2).length = 2 := by rw [List.length_take, List.length_drop, hl]; rfl
      have l3 : (((nums s).drop 6).take 2).length = 2 := by rw [List.length_take, List.length_drop, hl]; rfl
      rw [l2] at e2
      rw [l3] at e3
      have h3 : ¬ 4096 < numZ (nums s) := fun h => h2 (.inr (.inr (.inl h)))
      refine ⟨e1.1, (show numZ (nums s) ≤ 4096 by omega), e2.1, e2.2, e3.1, e3.2, ?_⟩
      rw [ByteArray.size_extract]
      have : payN (nums s) ≤ 48 := by unfold payN; omega
      omega
end Go.Jn
/- Journal: the code's record. -/
namespace Go.Proofs.YtipbkdlekanlmaaGreatDoor
open Go.RowKit Go.Lab Go.Jn Go.Disk
attribute [local go_sem] Oper.semAt_some
set_option maxRecDepth 100000
theorem range_map72 (f : Nat → Value) : (List.range 72).map f = [f 0, f 1, f 2, f 3, f 4, f 5, f 6, f 7, f 8, f 9, f 10, f 11, f 12, f 13, f 14, f 15, f 16, f 17, f 18, f 19, f 20, f 21, f 22, f 23, f 24, f 25, f 26, f 27, f 28, f 29, f 30, f 31, f 32, f 33, f 34, f 35, f 36, f 37, f 38, f 39, f 40, f 41, f 42, f 43, f 44, f 45, f 46, f 47, f 48, f 49, f 50, f 51, f 52, f 53, f 54, f 55, f 56, f 57, f 58, f 59, f 60, f 61, f 62, f 63, f 64, f 65, f 66, f 67, f 68, f 69, f 70, f 71] := rfl
theorem frame72 (t : Array Value) (ds : List Deferred) (h : t.size = 72) : ({ tmps := t, defers := ds } : Act) = { tmps := #[slot t 0, slot t 1, slot t 2, slot t 3, slot t 4, slot t 5, slot t 6, slot t 7, slot t 8, slot t 9, slot t 10, slot t 11, slot t 12, slot t 13, slot t 14, slot t 15, slot t 16, slot t 17, slot t 18, slot t 19, slot t 20, slot t 21, slot t 22, slot t 23, slot t 24, slot t 25, slot t 26, slot t 27, slot t 28, slot t 29, slot t 30, slot t 31, slot t 32, slot t 33, slot t 34, slot t 35, slot t 36, slot t 37, slot t 38, slot t 39, slot t 40, slot t 41, slot t 42, slot t 43, slot t 44, slot t 45, slot t 46, slot t 47, slot t 48, slot t 49, slot t 50, slot t 51, slot t 52, slot t 53, slot t 54, slot t 55, slot t 56, slot t 57, slot t 58, slot t 59, slot t 60, slot t 61, slot t 62, slot t 63, slot t 64, slot t 65, slot t 66, slot t 67, slot t 68, slot t 69, slot t 70, slot t 71], defers := ds } := by
  have e : t = ((List.range 72).map (slot t)).toArray := by
    apply Array.ext
    · simp [h]
    · intro i h1 h2
      simp [slot, Array.getD, h1]
  rw [range_map72] at e
  exact congrArg (fun x => ({ tmps := x, defers := ds } : Act)) e
def partsC (l : List PartZ) : List Value := l.flatMap fun p => (partC p).toList
theorem partsC_len (l : List PartZ) : (partsC l).length = l.length * 5 := by
  induction l with
  | nil => rfl
  | cons p r ih =>
    rw [partsC, List.flatMap_cons, List.length_append, List.length_cons]
    have : (r.flatMap fun p => (partC p).toList).length = r.length * 5 := ih
    rw [this]
    show 5 + _ = _
    omega
theorem partsC_get (l : List PartZ) (i j : Nat) (hi : i < l.length) (hj : j < 5) : (partsC l)[i * 5 + j]? = (partC l[i]).toList[j]? := by
  induction l generalizing i with
  | nil => simp at hi
  | cons p r ih =>
    have hl : (partC p).toList.length = 5 := rfl
    cases i with
    | zero =>
      rw [Nat.zero_mul, Nat.zero_add, partsC, List.flatMap_cons, List.getElem?_append_left (by rw [hl]; exact hj)]
      rfl
    | succ i =>
      rw [partsC, List.flatMap_cons, List.getElem?_append_right (by rw [hl]; omega), hl, show (i + 1) * 5 + j - 5 = i * 5 + j from by omega]
      exact ih i (by simpa using hi)
/-- A row of parts that is read. -/
def PartsR (w : World) (v : Value) (l : List PartZ) : Prop := Rd w (fun _ => True) 5 v l.length (partsC l)
theorem PartsR.below {w w' : World} {v : Value} {l : List PartZ} (h : PartsR w v l) (hb : Below w.heap.size w w') : PartsR w' v l := Rd.below h hb
theorem PartsR.range {w : World} {b o c : Nat} {l : List PartZ} (h : PartsR w (.slice (some ⟨b, o, none⟩) l.length c) l) (i : Nat) (hi : i < l.length) : w.rangeAt b (o + i * 5) (partC l[i]).toList := by
  obtain ⟨b', o', he, hb, hcell⟩ := Rd.at h (by omega)
  injection he with he
  injection he with h1 h2
  subst h1 h2
  intro j v hv
  have hj : j < 5 := by
    rcases Nat.lt_or_ge j 5 with h | h
    · exact h
    · rw [List.getElem?_eq_none (by show 5 ≤ j; exact h)] at hv; cases hv
  rw [Nat.add_assoc]
  exact hcell _ _ (by rw [partsC_get l i j hi hj]; exact hv)
def recV (r : ByteArray × Int × Bool) : Value := .tuple #[.string r.1, .int .i64 r.2.1, .bool r.2.2]
def RecI (f : PartZ) (l : List PartZ) (w : World) (F n : Nat) (t iv : Value) (wr : World) : Prop := ∃ i : Nat, i ≤ n ∧ iv = .int .i64 (i : Nat) ∧ t = .string (payAll (l.take i)) ∧ recAll f 0 (l.take i) = true ∧ wr.heap[F]? = some (.cells (partC f) 94) ∧ Below w.heap.size w wr
set_option maxHeartbeats 8000000 in
theorem record_any (v : Value) (l : List PartZ) (w : World) (hl : PartsR w v l) (hne : l ≠ []) (hr : ∀ p ∈ l, 0 ≤ p.num ∧ p.num ≤ 4096 ∧ 0 ≤ p.part ∧ p.part < 65536 ∧ 0 ≤ p.left ∧ p.left < 65536 ∧ p.pay.size ≤ 48) (hsz : l.length ≤ 4096) :
    Calls Tryz.prog 50 #[v] w fun e w' => e = .returned (recV (recordZ l)) ∧ Below w.heap.size w w' := by
  have hl0 : 0 < l.length := List.length_pos_iff.2 hne
  obtain ⟨a, c, rfl, hc, hm⟩ := hl.form
  obtain ⟨b, o, rfl, hb, hcell⟩ := Rd.at hl hl0
  clear hcell
  have hrg0 := hl.range 0 hl0
  rw [Nat.zero_mul, Nat.add_zero] at hrg0
  obtain ⟨f, hf⟩ : ∃ f, f = l[0] := ⟨_, rfl⟩
  have hfh : l.headD part0 = f := by rw [hf]; cases l with
    | nil => exact absurd rfl hne
    | cons p r => rfl
  rw [← hf] at hrg0
  have hfr := hr f (by rw [hf]; exact List.getElem_mem hl0)
  have HL := hidep hl
  have HR := hidep hr
  have HF := hidep (And.intro hf hfh)
  unfold maxLen at hm
  clear hf hfh hl hr
  obtain ⟨n, hn⟩ : ∃ n, n = l.length := ⟨_, rfl⟩
  rw [← hn] at hl0 hc hsz ⊢
  have HN := hidep hn
  have hn0 : (0 : Int) < (n : Int) := by omega
  clear hn hne hb
  go_enter Tryz.func50, Tryz.ntmps50
  go_upto_region 1 with (fail)
  refine wp_region_lit ?_
  refine wpList_value rfl (v := .slice (some ⟨b, o, none⟩) n c) (w' := w) (by kernel_rfl) ?_
  refine wpList_value rfl (v := .pointer (some ⟨b, o, none⟩)) (w' := w) (by
    have e : ∀ ev : Operand → Value, ev (.tmp 10) = .slice (some ⟨b, o, none⟩) n c → ev (.const (.int .i64 0)) = .int .i64 0 → (execOp ev ⟨some 11, .indexAddr 90 (.tmp 10) (.const (.int .i64 0)), 0, "", #[], none⟩).run Tryz.prog w = .ok (.value (.pointer (some ⟨b, o, none⟩))) w := fun ev ha hc => by
      go_simp
    exact e _ (by kernel_rfl) rfl) ?_
  refine wpList_load_mid rfl 94 _ rfl b o (by kernel_rfl) (partC f).toList _ hrg0 row_part.1.choose_spec.1 row_part.1.choose_spec.2 row_part.2 ?_
  refine wpList_alloc_row zero_part _ rfl rfl ?_
  refine wpList_store_last (t := 94) (c := partC part0) (c' := partC f) w row_part.2 rfl (part_one f) rfl _ _ rfl (by kernel_rfl) (by kernel_rfl) ?_
  refine wpList_nil ?_
  apply_assumption
  refine wp_abs (fun X => X.heap[w.heap.size]? = some (.cells (partC f) 94) ∧ Below w.heap.size w X) ⟨heap_alloc_new _ _, (Below.refl _ _).alloc (Nat.le_refl _) _⟩ ?_
  rintro X ⟨hqF, hbX⟩
  obtain ⟨F, hF⟩ : ∃ F, F = w.heap.size := ⟨_, rfl⟩
  rw [← hF] at hqF
  refine wp_cutA 72 (fun tm ds => ds = [] ∧ slot tm 0 = .slice (some ⟨b, o, none⟩) n c ∧ slot tm 5 = .pointer (some ⟨F, 0, none⟩)) (by kernel_rfl) (by exact ⟨by kernel_rfl, by kernel_rfl, by rw [hF]; kernel_rfl⟩) ?_
  rintro tA dA h72 ⟨rfl, e0, e5⟩
  rw [frame72 tA [] h72, e0, e5]
  have HFS := hidep hF
  clear h72 e0 e5 hF hrg0
  obtain ⟨m, hm⟩ : ∃ m : Nat, cntZ f.left = (m : Int) := ⟨(cntZ f.left).toNat, by have := cntZ_rng f.left; omega⟩
  have hm167 : m ≤ 167 := by have := cntZ_rng f.left; omega
  have HCN := hidep (show ∀ W, Calls Tryz.prog 16 #[.int .i64 f.left] W fun e w' => e = .returned (.int .i64 (m : Nat)) ∧ w' = W from fun W => by
    have := count_any f.left W (by omega) (by omega)
    rw [hm] at this
    exact this)
  obtain ⟨fn, fp, fl, fy, fo⟩ := f
  obtain ⟨c0, c1, c2, c3, c4⟩ := box5p hqF
  simp only at c0 c1 c2 c3 c4 hm hfr
  have HMC := hidep hm
  clear hm
  go_upto_region 3 with (first
    | (go_at_call 16; refine (HCN.out _).mono ?_; rintro e w3 ⟨rfl, rfl⟩)
    | fail)
  have hrec : recordZ l = if fo = false ∨ fp ≠ 0 ∨ (n : Int) < (m : Int) then (ByteArray.empty, 0, false) else if recAll ⟨fn, fp, fl, fy, fo⟩ 0 (l.take m) = true then (payAll (l.take m), (m : Int), true) else (ByteArray.empty, 0, false) := by
    unfold recordZ
    simp only [HF.out.2, HMC.out, Int.toNat_natCast, HN.out]
  cases fo with
  | false =>
    rw [if_pos (.inl rfl)] at hrec
    have HRC := hidep hrec
    clear hrec HCN
    go_wp2
    refine bodyPost_ret (P := Tryz.prog) (fn := Tryz.f50) (results_tmp3 rfl _ _ _) (by kernel_rfl) ?_
    exact ⟨by rw [HRC.out]; kernel_rfl, hbX⟩
  | true =>
    by_cases hp0 : fp = 0
    · by_cases hmn : m > n
      · rw [if_pos (.inr (.inr (by omega)))] at hrec
        have HRC := hidep hrec
        have g1 : (fp != 0) = false := by rw [hp0]; rfl
        have g2 : (fp == 0) = true := by rw [hp0]; rfl
        have g3 : (m : Int) > (n : Int) := by omega
        clear hrec HCN hp0
        go_wp2
        refine bodyPost_ret (P := Tryz.prog) (fn := Tryz.f50) (results_tmp3 rfl _ _ _) (by kernel_rfl) ?_
        exact ⟨by rw [HRC.out]; kernel_rfl, hbX⟩
      · rw [if_neg (by intro h; rcases h with h | h | h; exact absurd h (by decide); exact h hp0; omega)] at hrec
        have HRC := hidep hrec
        have g1 : (fp != 0) = false := by rw [hp0]; rfl
        have g2 : (fp == 0) = true := by rw [hp0]; rfl
        have g3 : ¬ (m : Int) > (n : Int) := by omega
        clear hrec HCN hp0
        have hqX := hqF
        go_upto_region 7 with (fail)
        clear c0 c1 c2 c3 c4
        obtain ⟨f, hf⟩ : ∃ f : PartZ, f = ⟨fn, fp, fl, fy, true⟩ := ⟨_, rfl⟩
        rw [← hf] at hqX HRC
        have HFD := hidep hf
        clear hf hqF
        refine wp_loop (LoopI 72 (fun tm ds wr => (slot tm 5) = .pointer (some ⟨F, 0, none⟩) ∧ (slot tm 6) = .int .i64 (m : Nat) ∧ (slot tm 32) = .slice (some ⟨b, o, none⟩) m c ∧ (slot tm 33) = .int .i64 (m : Nat) ∧ ds = [] ∧ RecI f l w F m (slot tm 7) (slot tm 34) wr)) (fun a' wr => m - natI (a'.tmps.getD 34 undef)) ?mainStart ?mainRound
        case' mainStart => refine LoopI.mk rfl ?_
        case' mainRound => (rintro ⟨t, ds⟩ wr ⟨hts, hrel⟩; dsimp only at hts hrel; rw [frame72 t ds hts])
        case mainStart => exact ⟨rfl, rfl, rfl, rfl, rfl, 0, Nat.zero_le _, rfl, rfl, rfl, hqX, hbX⟩
        clear hqX hbX g3
        obtain ⟨e5, e6, e32, e33, hds, i, hi, e34, e7, hall, hqF, hbw⟩ := hrel
        subst hds
        rw [e5, e6, e7, e32, e33, e34]
        clear e5 e6 e7 e32 e33 e34 hts
        obtain ⟨tx, htx⟩ : ∃ tx, tx = payAll (l.take i) := ⟨_, rfl⟩
        rw [← htx]
        by_cases him : i < m
        · have himi : (i : Int) < (m : Int) := by omega
          have hin : i < l.length := by rw [← HN.out]; omega
          obtain ⟨p, hp⟩ : ∃ p, p = l[i] := ⟨_, rfl⟩
          have hrg := (PartsR.below HL.out hbw).range i hin
          rw [← hp] at hrg
          have hpr := HR.out p (by rw [hp]; exact List.getElem_mem hin)
          have htxs := pay_size l (fun q hq => (HR.out q hq).2.2.2.2.2.2) i (by omega)
          rw [← htx] at htxs
          have HI := hidep (And.intro hp (And.intro hall (And.intro htx hin)))
          clear hp hall htx
          have hi0 : (0 : Int) ≤ (i : Int) := by omega
          go_upto_region 8 with (fail)
          refine wp_region_lit ?_
          refine wpList_value rfl (v := .int .i64 (i : Int)) (w' := wr) (by kernel_rfl) ?_
          refine wpList_value rfl (v := .pointer (some ⟨b, o + i * 5, none⟩)) (w' := wr) (by
            have e : ∀ ev : Operand → Value, ev (.tmp 32) = .slice (some ⟨b, o, none⟩) m c → ev (.tmp 34) = .int .i64 (i : Int) → (execOp ev ⟨some 37, .indexAddr 90 (.tmp 32) (.tmp 34), 0, "", #[], none⟩).run Tryz.prog wr = .ok (.value (.pointer (some ⟨b, o + i * 5, none⟩))) wr := fun ev ha hc => by
              go_simp
            exact e _ (by kernel_rfl) (by kernel_rfl)) ?_
          refine wpList_load_mid rfl 94 _ rfl b (o + i * 5) (by kernel_rfl) (partC p).toList _ hrg row_part.1.choose_spec.1 row_part.1.choose_spec.2 row_part.2 ?_
          refine wpList_alloc_row zero_part _ rfl rfl ?_
          refine wpList_value rfl (v := .int .i64 (i : Int)) (w' := wr.alloc (.cells (partC part0) 94)) (by kernel_rfl) ?_
          refine wpList_store_last (t := 94) (c := partC part0) (c' := partC p) wr row_part.2 rfl (part_one p) rfl _ _ rfl (by kernel_rfl) (by kernel_rfl) ?_
          refine wpList_nil ?_
          apply_assumption
          refine wp_abs (fun Y => Y.heap[wr.heap.size]? = some (.cells (partC p) 94) ∧ Y.heap[F]? = some (.cells (partC f) 94) ∧ Below w.heap.size w Y) ⟨heap_alloc_new _ _, below_push ((Below.refl _ _).alloc (Nat.le_refl _) _) hqF, hbw.alloc hbw.size _⟩ ?_
          rintro Y ⟨hqG, hqF, hbY⟩
          obtain ⟨G, hG⟩ : ∃ G, G = wr.heap.size := ⟨_, rfl⟩
          rw [← hG] at hqG
          refine wp_cutA 72 (fun tm ds => ds = [] ∧ slot tm 5 = .pointer (some ⟨F, 0, none⟩) ∧ slot tm 6 = .int .i64 (m : Nat) ∧ slot tm 7 = .string tx ∧ slot tm 8 = .int .i64 (i : Nat) ∧ slot tm 9 = .pointer (some ⟨G, 0, none⟩) ∧ slot tm 32 = .slice (some ⟨b, o, none⟩) m c ∧ slot tm 33 = .int .i64 (m : Nat) ∧ slot tm 34 = .int .i64 (i : Nat)) (by kernel_rfl) (by exact ⟨by kernel_rfl, by kernel_rfl, by kernel_rfl, by kernel_rfl, by kernel_rfl, by rw [hG]; kernel_rfl, by kernel_rfl, by kernel_rfl, by kernel_rfl⟩) ?_
          rintro tB dB h72 ⟨rfl, e5, e6, e7, e8, e9, e32, e33, e34⟩
          rw [frame72 tB [] h72, e5, e6, e7, e8, e9, e32, e33, e34]
          clear h72 e5 e6 e7 e8 e9 e32 e33 e34 hG hrg hbw himi
          have hcF := box5p hqF
          rw [HFD.out] at hcF
          obtain ⟨d0, d1, d2, d3, d4⟩ := hcF
          obtain ⟨c0, c1, c2, c3, c4⟩ := box5p hqG
          have hw48 : IntKind.i64.wrap (48 * (i : Int)) = 48 * (i : Int) := IntWalk.i64_in _ (by omega)
          have hwfl : IntKind.i64.wrap (fl - 48 * (i : Int)) = fl - 48 * (i : Int) := IntWalk.i64_in _ (by omega)
          have hadd := fun W => run_string_add_sum (P := Tryz.prog) (w := W) tx p.pay (by omega)
          have hok : recOk f i p = (p.ok && (decide (p.num = fn) && (decide (p.part = (i : Int)) && decide (p.left = fl - 48 * (i : Int))))) := by rw [HFD.out]; rfl
          obtain ⟨pn, pp, pl, py, po⟩ := p
          simp only at c0 c1 c2 c3 c4 hok hpr hadd
          cases po with
          | false =>
            have HBAD := hidep (show recAll f 0 (l.take m) = false from rec_fail f l i m HI.out.2.2.2 him (by rw [← HI.out.1, hok]; rfl))
            clear hok
            go_wp2
            refine bodyPost_ret (P := Tryz.prog) (fn := Tryz.f50) (results_tmp3 rfl _ _ _) (by kernel_rfl) ?_
            exact ⟨by rw [HRC.out, if_neg (by rw [HBAD.out]; decide)]; kernel_rfl, hbY⟩
          | true =>
            rw [Bool.true_and] at hok
            by_cases hq : pn = fn
            · have g1 : (pn != fn) = false := by rw [hq]; simp
              have g2 : (pn == fn) = true := by rw [hq]; simp
              have hok1 := hok
              rw [decide_eq_true hq, Bool.true_and] at hok1
              clear hok hq
              by_cases hq : pp = (i : Int)
              · have g3 : (pp != (i : Int)) = false := by rw [hq]; simp
                have g4 : (pp == (i : Int)) = true := by rw [hq]; simp
                have hok2 := hok1
                rw [decide_eq_true hq, Bool.true_and] at hok2
                clear hok1 hq
                by_cases hq : pl = fl - 48 * (i : Int)
                · have g5 : (pl != fl - 48 * (i : Int)) = false := by rw [hq]; simp
                  have g6 : (pl == fl - 48 * (i : Int)) = true := by rw [hq]; simp
                  rw [decide_eq_true hq] at hok2
                  have hall2 : recAll f 0 (l.take (i + 1)) = true := (rec_snoc f l i HI.out.2.2.2).trans (by rw [Bool.and_eq_true]; exact ⟨HI.out.2.1, by rw [← HI.out.1, hok2]⟩)
                  have htx2 : payAll (l.take (i + 1)) = tx ++ py := by rw [pay_snoc l i HI.out.2.2.2, ← HI.out.1, ← HI.out.2.2.1]
                  have HE := hidep (And.intro hall2 htx2)
                  clear hok2 hq hall2 htx2
                  go_wp2
                  refine ⟨LoopI.mk rfl ⟨rfl, rfl, rfl, rfl, rfl, i + 1, by omega, by show Value.int _ _ = _; go_num, by show Value.string _ = Value.string _; rw [HE.out.2], HE.out.1, hqF, hbY⟩, ?_⟩
                  show m - _ < m - _
                  simp [natI]; omega
                · have g5 : (pl != fl - 48 * (i : Int)) = true := by simp [hq]
                  have g6 : (pl == fl - 48 * (i : Int)) = false := by simp [hq]
                  have HBAD := hidep (show recAll f 0 (l.take m) = false from rec_fail f l i m HI.out.2.2.2 him (by rw [← HI.out.1, hok2]; simp [hq]))
                  clear hok2 hq
                  go_wp2
                  refine bodyPost_ret (P := Tryz.prog) (fn := Tryz.f50) (results_tmp3 rfl _ _ _) (by kernel_rfl) ?_
                  exact ⟨by rw [HRC.out, if_neg (by rw [HBAD.out]; decide)]; kernel_rfl, hbY⟩
              · have g3 : (pp != (i : Int)) = true := by simp [hq]
                have g4 : (pp == (i : Int)) = false := by simp [hq]
                have HBAD := hidep (show recAll f 0 (l.take m) = false from rec_fail f l i m HI.out.2.2.2 him (by rw [← HI.out.1, hok1]; simp [hq]))
                clear hok1 hq
                go_wp2
                refine bodyPost_ret (P := Tryz.prog) (fn := Tryz.f50) (results_tmp3 rfl _ _ _) (by kernel_rfl) ?_
                exact ⟨by rw [HRC.out, if_neg (by rw [HBAD.out]; decide)]; kernel_rfl, hbY⟩
            · have g1 : (pn != fn) = true := by simp [hq]
              have g2 : (pn == fn) = false := by simp [hq]
              have HBAD := hidep (show recAll f 0 (l.take m) = false from rec_fail f l i m HI.out.2.2.2 him (by rw [← HI.out.1, hok]; simp [hq]))
              clear hok hq
              go_wp2
              refine bodyPost_ret (P := Tryz.prog) (fn := Tryz.f50) (results_tmp3 rfl _ _ _) (by kernel_rfl) ?_
              exact ⟨by rw [HRC.out, if_neg (by rw [HBAD.out]; decide)]; kernel_rfl, hbY⟩
        · have himi : ¬ (i : Int) < (m : Int) := by omega
          have him2 : i = m := by omega
          have hall2 : recAll f 0 (l.take m) = true := by rw [← him2]; exact hall
          have htx2 : tx = payAll (l.take m) := by rw [htx, him2]
          have HE := hidep (And.intro hall2 htx2)
          clear hall2 htx2 htx hall him2
          go_wp2
          refine bodyPost_ret (P := Tryz.prog) (fn := Tryz.f50) (results_tmp3 rfl _ _ _) (by kernel_rfl) ?_
          exact ⟨by rw [HRC.out, if_pos HE.out.1, ← HE.out.2]; kernel_rfl, hbw⟩
    · rw [if_pos (.inr (.inl hp0))] at hrec
      have HRC := hidep hrec
      have g1 : (fp != 0) = true := by simp [hp0]
      have g2 : (fp == 0) = false := by simp [hp0]
      clear hrec HCN
      go_wp2
      refine bodyPost_ret (P := Tryz.prog) (fn := Tryz.f50) (results_tmp3 rfl _ _ _) (by kernel_rfl) ?_
      exact ⟨by rw [HRC.out]; kernel_rfl, hbX⟩
end Go.Proofs.YtipbkdlekanlmaaGreatDoor
/- Journal: slices.Clone and slices.Contains; Next. -/
namespace Go.Proofs.YtipbkdlekanlmaaGreatDoor
open Go.RowKit Go.Lab Go.Disk Go.Jn
attribute [local go_sem] Oper.semAt_some
set_option maxRecDepth 100000
theorem range_map19 (f : Nat → Value) : (List.range 19).map f = [f 0, f 1, f 2, f 3, f 4, f 5, f 6, f 7, f 8, f 9, f 10, f 11, f 12, f 13, f 14, f 15, f 16, f 17, f 18] := rfl
theorem frame19 (t : Array Value) (ds : List Deferred) (h : t.size = 19) : ({ tmps := t, defers := ds } : Act) = { tmps := #[slot t 0, slot t 1, slot t 2, slot t 3, slot t 4, slot t 5, slot t 6, slot t 7, slot t 8, slot t 9, slot t 10, slot t 11, slot t 12, slot t 13, slot t 14, slot t 15, slot t 16, slot t 17, slot t 18], defers := ds } := by
  have e : t = ((List.range 19).map (slot t)).toArray := by
    apply Array.ext
    · simp [h]
    · intro i h1 h2
      simp [slot, Array.getD, h1]
  rw [range_map19] at e
  exact congrArg (fun x => ({ tmps := x, defers := ds } : Act)) e
theorem intsC_one' (l : List Int) : ∀ u ∈ intsC l, u.oneCell' = true := by
  intro u hu
  obtain ⟨x, _, rfl⟩ := List.mem_map.1 hu
  rfl
theorem cloneI_any (B : Nat) (v : Value) (l : List Int) (w : World) (h : w.ownsRow B 3 1 v l.length (intsC l)) (hn : l.length ≤ 100000) :
    Calls Tryz.prog 62 #[v] w fun e w' => ∃ v', e = .returned v' ∧ w'.ownsRow w.heap.size 3 1 v' l.length (intsC l) ∧ Below w.heap.size w w' := by
  have hq : ∀ (W : World) (a : Option Addr) (n c n' c' : Nat), (binOp .eql 51 (.slice a n c) (.slice none n' c')).run Tryz.prog W = .ok (.bool a.isNone) W := fun W a n c n' c' => Lib.run_eql_slice_nil W _ _ a n c n' c' slInts.und
  have hrd := Rd.of_own h
  rcases h.2 with ⟨rfl, h0⟩ | ⟨g, cap, cur, rfl, _⟩
  · have hl : l = [] := List.eq_nil_of_length_eq_zero h0
    subst hl
    go_enter Tryz.func62, Tryz.ntmps62
    go_wp2
    go_ret
    exact ⟨_, rfl, ⟨rfl, .inl ⟨rfl, rfl⟩⟩, Below.refl _ _⟩
  · have hlit : (w.alloc (.cells #[] 3)).ownsRow w.heap.size 3 1 (.slice (some ⟨w.heap.size, 0, none⟩) 0 0) 0 [] := lit_own (heap_alloc_new _ _) (Nat.le_refl _)
    have hrA := fun o => Rd.below hrd (Below.alloc (Below.refl w.heap.size w) (Nat.le_refl _) o)
    clear hrd h
    go_enter Tryz.func62, Tryz.ntmps62
    go_wp2_with (first
      | (at_builtin; refine wpList_append_rd _ rfl (.tmp 5) (.tmp 6) rfl slInts w.heap.size _ _ _ rfl hlit _ _ _ _ rfl (hrA _) (intsC_one' _) (by unfold maxLen; omega) (by omega) (by simp) ?_; intro v3 w3 hown3 hgr3 hat3 hnl3; clear hat3 hnl3; have hb3 : Below w.heap.size w w3 := ((Below.refl _ _).alloc (Nat.le_refl _) _).grown hgr3 (by simp) (fun g hg => by cases hg; exact Nat.le_refl _))
      | fail)
    go_ret
    rw [Nat.zero_add, List.nil_append] at hown3
    exact ⟨_, rfl, hown3, hb3⟩
theorem cloneS_any (B : Nat) (v : Value) (l : List ByteArray) (w : World) (h : w.ownsRow B 9 1 v l.length (strL l)) (hn : l.length ≤ 100000) :
    Calls Tryz.prog 61 #[v] w fun e w' => ∃ v', e = .returned v' ∧ w'.ownsRow w.heap.size 9 1 v' l.length (strL l) ∧ Below w.heap.size w w' := by
  have hq : ∀ (W : World) (a : Option Addr) (n c n' c' : Nat), (binOp .eql 22 (.slice a n c) (.slice none n' c')).run Tryz.prog W = .ok (.bool a.isNone) W := fun W a n c n' c' => Lib.run_eql_slice_nil W _ _ a n c n' c' slStrs.und
  have hrd := Rd.of_own h
  rcases h.2 with ⟨rfl, h0⟩ | ⟨g, cap, cur, rfl, _⟩
  · have hl : l = [] := List.eq_nil_of_length_eq_zero h0
    subst hl
    go_enter Tryz.func61, Tryz.ntmps61
    go_wp2
    go_ret
    exact ⟨_, rfl, ⟨rfl, .inl ⟨rfl, rfl⟩⟩, Below.refl _ _⟩
  · have hlit : (w.alloc (.cells #[] 9)).ownsRow w.heap.size 9 1 (.slice (some ⟨w.heap.size, 0, none⟩) 0 0) 0 [] := lit_own (heap_alloc_new _ _) (Nat.le_refl _)
    have hrA := fun o => Rd.below hrd (Below.alloc (Below.refl w.heap.size w) (Nat.le_refl _) o)
    clear hrd h
    go_enter Tryz.func61, Tryz.ntmps61
    go_wp2_with (first
      | (at_builtin; refine wpList_append_rd _ rfl (.tmp 5) (.tmp 6) rfl slStrs w.heap.size _ _ _ rfl hlit _ _ _ _ rfl (hrA _) (strL_one _) (by unfold maxLen; omega) (by omega) (by simp) ?_; intro v3 w3 hown3 hgr3 hat3 hnl3; clear hat3 hnl3; have hb3 : Below w.heap.size w w3 := ((Below.refl _ _).alloc (Nat.le_refl _) _).grown hgr3 (by simp) (fun g hg => by cases hg; exact Nat.le_refl _))
      | fail)
    go_ret
    rw [Nat.zero_add, List.nil_append] at hown3
    exact ⟨_, rfl, hown3, hb3⟩
/-- The first place of a number, or -1. -/
def IdxI (l : List Int) (x : Int) (w : World) (iv : Value) (wr : World) : Prop := ∃ i : Nat, i ≤ l.length ∧ iv = .int .i64 (i : Nat) ∧ (∀ j, j < i → l.getD j 0 ≠ x) ∧ wr = w
theorem index_any (v : Value) (l : List Int) (x : Int) (w : World) (h : NumsAt w v l) (hn : l.length ≤ 100000) :
    Calls Tryz.prog 78 #[v, .int .i64 x] w fun e w' => (∃ i : Int, e = .returned (.int .i64 i) ∧ (0 ≤ i ↔ x ∈ l)) ∧ w' = w := by
  obtain ⟨a, c, rfl, hc, hm⟩ := h.form
  have HH := hidep h
  clear h
  go_enter Tryz.func78, Tryz.ntmps78
  go_upto_region 2 with (fail)
  refine wp_loop (LoopI 19 (fun tm ds wr => (slot tm 0) = .slice a l.length c ∧ (slot tm 1) = .int .i64 x ∧ (slot tm 7) = .int .i64 (l.length : Nat) ∧ ds = [] ∧ IdxI l x w (slot tm 8) wr)) (fun a' wr => l.length - natI (a'.tmps.getD 8 undef)) ?mainStart ?mainRound
  case' mainStart => refine LoopI.mk rfl ?_
  case' mainRound => (rintro ⟨t, ds⟩ wr ⟨hts, hrel⟩; dsimp only at hts hrel; rw [frame19 t ds hts])
  case mainStart => exact ⟨rfl, rfl, rfl, rfl, 0, Nat.zero_le _, rfl, (fun j h => by omega), rfl⟩
  obtain ⟨e0, e1, e6, hds, i, hi, e8, hno, hwr⟩ := hrel
  subst hds
  rw [hwr, e0, e1, e6, e8]
  clear hwr e0 e1 e6 e8 hts
  by_cases hil : i < l.length
  · obtain ⟨b, o, he, hb, hcell⟩ := Rd.at HH.out (by omega)
    subst he
    have hci := hcell i (.int .i64 (l.getD i 0)) (by simp [intsC, List.getD, hil])
    have hili : (i : Int) < (l.length : Int) := by omega
    have hi0 : (0 : Int) ≤ (i : Int) := by omega
    obtain ⟨n, hnl⟩ : ∃ n, n = l.length := ⟨_, rfl⟩
    obtain ⟨y, hy⟩ : ∃ y, y = l.getD i 0 := ⟨_, rfl⟩
    rw [← hy] at hci
    rw [← hnl]
    rw [← hnl] at hili
    by_cases hxy : x = y
    · have hmem := hidep (show x ∈ l from by rw [hxy, hy, List.getD_eq_getElem?_getD, List.getElem?_eq_getElem hil]; exact List.getElem_mem hil)
      have g1 : (x == y) = true := by rw [hxy]; simp
      clear hcell hxy hy hnl
      go_wp2
      go_ret
      exact ⟨⟨i, rfl, by constructor; intro _; exact hmem.out; intro _; omega⟩, rfl⟩
    · have hne := hidep (And.intro hxy (And.intro hy hnl))
      have g1 : (x == y) = false := by simp [hxy]
      clear hcell hy hnl
      go_wp2
      refine ⟨LoopI.mk rfl ⟨by rw [hne.out.2.2]; rfl, rfl, by rw [hne.out.2.2]; rfl, rfl, i + 1, by omega, by show Value.int _ _ = _; go_num, (fun j hj => by
        by_cases hji : j = i
        · rw [hji, ← hne.out.2.1]; exact fun e => hne.out.1 e.symm
        · exact hno j (by omega)), rfl⟩, ?_⟩
      show n - _ < n - _
      have hnn := hne.out.2.2
      simp [natI]; omega
  · have hili : ¬ (i : Int) < (l.length : Int) := by omega
    have hnm : x ∉ l := fun hx => by
      obtain ⟨j, hj, he⟩ := List.mem_iff_getElem.1 hx
      exact hno j (by omega) (by rw [List.getD_eq_getElem?_getD, List.getElem?_eq_getElem hj]; exact he)
    have HNM := hidep hnm
    clear hnm
    go_wp2
    go_ret
    exact ⟨⟨-1, rfl, by constructor; intro h; omega; intro h; exact absurd h HNM.out⟩, rfl⟩
theorem contains_any (v : Value) (l : List Int) (x : Int) (w : World) (h : NumsAt w v l) (hn : l.length ≤ 100000) :
    Calls Tryz.prog 51 #[v, .int .i64 x] w fun e w' => e = .returned (.bool (decide (x ∈ l))) ∧ w' = w := by
  have HI := hidep (index_any v l x w h hn)
  by_cases hx : x ∈ l
  · rw [decide_eq_true hx]
    go_enter Tryz.func51, Tryz.ntmps51
    go_wp2_with (first
      | (go_at_call 78; refine HI.out.mono ?_; rintro e w2 ⟨⟨i, rfl, hi⟩, rfl⟩; have hi0 : (0 : Int) ≤ i := hi.2 hx; clear hi)
      | fail)
    go_ret
    exact ⟨ret_val (congrArg Value.bool rfl), rfl⟩
  · rw [decide_eq_false hx]
    go_enter Tryz.func51, Tryz.ntmps51
    go_wp2_with (first
      | (go_at_call 78; refine HI.out.mono ?_; rintro e w2 ⟨⟨i, rfl, hi⟩, rfl⟩; have hi0 : ¬ (0 : Int) ≤ i := fun h => hx (hi.1 h); clear hi)
      | fail)
    go_ret
    exact ⟨ret_val (congrArg Value.bool (decide_eq_false (Int.not_le.2 hi0))), rfl⟩
end Go.Proofs.YtipbkdlekanlmaaGreatDoor
