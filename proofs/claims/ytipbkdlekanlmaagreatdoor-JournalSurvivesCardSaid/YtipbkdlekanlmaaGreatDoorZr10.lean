/- SHA-256 piece by piece, plain: what a stream does with a further text; 56 bytes, then what follows them. -/
import Derived.Test.YtipbkdlekanlmaaGreatDoorZr05
import Derived.Test.YtipbkdlekanlmaaGreatDoorZr09
import Derived.Test.YtipbkdlekanlmaaGreatDoorZr02
import Derived.Laws.CopyRow
import Derived.Lib.LazyBuf
namespace Go.Lab
open Go
/-- What Add does: state, block, length; f bounds the number of pieces. -/
def addZ : Nat → Sv × List Int × Nat → List Int → Sv × List Int × Nat
  | 0, st, _ => st
  | f + 1, st, t => if t = [] then st else
    let at' := st.2.2 % 64
    let k := min (64 - at') t.length
    let bl := st.2.1.take at' ++ t.take k ++ st.2.1.drop (at' + k)
    addZ f (if at' + k = 64 then compZ' ks0 st.1 bl else st.1, bl, st.2.2 + k) (t.drop k)
theorem addZ_nil (f : Nat) (st : Sv × List Int × Nat) : addZ f st [] = st := by
  cases f with
  | zero => rfl
  | succ f => simp [addZ]
theorem add_first (l : List Int) (h : l.length = 56) (f : Nat) : addZ (f + 1) (iv0, List.replicate 64 0, 0) l = (iv0, l ++ List.replicate 8 0, 56) := by
  have hne : l ≠ [] := by
    intro e
    rw [e] at h
    cases h
  have e1 : (List.replicate 64 (0 : Int)).drop 56 = List.replicate 8 0 := by decide
  have e2 : l.drop 56 = [] := List.drop_eq_nil_of_le (by omega)
  have e3 : l.take 56 = l := List.take_of_length_le (by omega)
  unfold addZ
  rw [if_neg hne]
  simp only [Nat.zero_mod, Nat.sub_zero, h, Nat.zero_add, List.take_zero, List.nil_append, show min 64 56 = 56 from rfl, e1, e2, e3, addZ_nil]
  rfl
theorem add_tail (l : List Int) (h : l.length = 56) (f : Nat) : addZ (f + 2) (iv0, l ++ List.replicate 8 0, 56) tail56 = (compZ' ks0 (compZ' ks0 iv0 (l ++ tail56.take 8)) (tail56.drop 8), tail56.drop 8, 128) := by
  have e1 : (l ++ List.replicate 8 (0 : Int)).take 56 = l := by rw [List.take_append, h, List.take_of_length_le (by omega)]; simp
  have e2 : (l ++ List.replicate 8 (0 : Int)).drop 64 = [] := List.drop_eq_nil_of_le (by simp; omega)
  have hl : (l ++ tail56.take 8).length = 64 := by rw [List.length_append, h]; rfl
  show addZ (f + 1 + 1) _ _ = _
  unfold addZ
  rw [if_neg (by decide)]
  simp only [show 56 % 64 = 56 from rfl, show min (64 - 56) tail56.length = 8 from by decide, show 56 + 8 = 64 from rfl, if_true, e1, e2, List.append_nil]
  unfold addZ
  rw [if_neg (by decide)]
  simp only [show 64 % 64 = 0 from rfl, show min (64 - 0) (tail56.drop 8).length = 64 from by decide, List.take_zero, List.nil_append, Nat.zero_add, if_true, show 64 + 64 = 128 from rfl]
  have e3 : (l ++ tail56.take 8).drop 64 = [] := List.drop_eq_nil_of_le (by omega)
  have e4 : (tail56.drop 8).take 64 = tail56.drop 8 := by decide
  have e5 : (tail56.drop 8).drop 64 = [] := by decide
  rw [e3, e4, e5, List.append_nil, addZ_nil]
end Go.Lab
/- Journal: the code's streams: Add. -/
namespace Go.Proofs.YtipbkdlekanlmaaGreatDoor
open Go.RowKit Go.Lab Go.Disk
attribute [local go_sem] Oper.semAt_some
set_option maxRecDepth 100000
theorem range_map38 (f : Nat → Value) : (List.range 38).map f = [f 0, f 1, f 2, f 3, f 4, f 5, f 6, f 7, f 8, f 9, f 10, f 11, f 12, f 13, f 14, f 15, f 16, f 17, f 18, f 19, f 20, f 21, f 22, f 23, f 24, f 25, f 26, f 27, f 28, f 29, f 30, f 31, f 32, f 33, f 34, f 35, f 36, f 37] := rfl
theorem frame38 (t : Array Value) (ds : List Deferred) (h : t.size = 38) : ({ tmps := t, defers := ds } : Act) = { tmps := #[slot t 0, slot t 1, slot t 2, slot t 3, slot t 4, slot t 5, slot t 6, slot t 7, slot t 8, slot t 9, slot t 10, slot t 11, slot t 12, slot t 13, slot t 14, slot t 15, slot t 16, slot t 17, slot t 18, slot t 19, slot t 20, slot t 21, slot t 22, slot t 23, slot t 24, slot t 25, slot t 26, slot t 27, slot t 28, slot t 29, slot t 30, slot t 31, slot t 32, slot t 33, slot t 34, slot t 35, slot t 36, slot t 37], defers := ds } := by
  have e : t = ((List.range 38).map (slot t)).toArray := by
    apply Array.ext
    · simp [h]
    · intro i h1 h2
      simp [slot, Array.getD, h1]
  rw [range_map38] at e
  exact congrArg (fun x => ({ tmps := x, defers := ds } : Act)) e
theorem byC_nums (T : ByteArray) : byC (nums T) = cellsB T := rfl
/-- 'copy' from a string, as much as there is room for. -/
theorem run_copy_min {P : Program} (w : World) (dT sT ty elem : TypeId) (b o dLen dCap : Nat) (t : ByteArray) (k : Nat) (hk : k = min t.size dLen)
    (hu : P.underlying dT = some (.slice elem)) (hz : ∀ w, (Go.sizeOf elem).run P w = .ok 1 w)
    (hc : ∀ j, j < k → (w.cell? ⟨b, o + j, none⟩).isSome = true) (hf : ∀ j, j < k → w.frozen? ⟨b, o + j, none⟩ = false) :
    (Builtin.copy_ #[dT, sT] ty #[.slice (some ⟨b, o, none⟩) dLen dCap, .string t]).run P w = .ok (goInt k) (w.setCells b o (byC ((nums t).take k))) := by
  have hmin : Nat.min t.size dLen = k := hk.symm
  have hl : (byC ((nums t).take k)).length = k := by
    unfold byC
    rw [List.length_map, List.length_take, nums_len]
    omega
  have hst := run_storeCells_cells (P := P) b o (byC ((nums t).take k)) 0 w (by rw [hl]; simpa using hc) (by rw [hl]; simpa using hf) (byC_one _)
  have he : (t.data.toList.map fun x => Value.int .u8 (x.toNat : Int)).take k = byC ((nums t).take k) := by
    unfold byC nums
    rw [← List.map_take, ← List.map_take, List.map_map]
    rfl
  simp [Builtin.copy_, run_underlying hu, Builtin.lenOf, Builtin.firstCells, hz, hmin]
  rw [he, hst]
  rfl
theorem wpList_copy {P : Program} {w : World} {ops : Array Oper} {rest : List Oper} {o : Oper} {a : Act} {Q : Exit → Act → World → Prop} (hgd : o.guard = none) (d x : Operand) (dT sT : TypeId)
    (ho : o.op = Op.call { callee := Callee.builtin Builtin.copy, args := #[d, x], argTypes := #[dT, sT] }) (elem : TypeId) (hu : P.underlying dT = some (.slice elem)) (hz : ∀ w, (Go.sizeOf elem).run P w = .ok 1 w)
    (b off dLen dCap : Nat) (t : ByteArray) (k : Nat) (hk : k = min t.size dLen) (hd : a.eval d = .slice (some ⟨b, off, none⟩) dLen dCap) (hx : a.eval x = .string t)
    (ht : w.there b off k) (W2 : World) (hW : w.setCells b off (byC ((nums t).take k)) = W2)
    (h : wpList P ops Q rest (a.put o.dst (goInt k)) W2) : wpList P ops Q (o :: rest) a w := by
  subst hW
  refine wpList_plain hgd fun K hK => ?_
  have hrun := run_copy_min (P := P) w dT sT o.type elem b off dLen dCap t k hk hu hz (fun j hj => (ht j hj).1) (fun j hj => (ht j hj).2)
  unfold Oper.wp
  simp [execOp, ho, resolve, invoke, builtin, hd, hx, hrun, Result.andThen]
  exact hK _ _ h
/-- What stands in a block behind 'setCells'. -/
theorem heap_setCells {b : Nat} {t : TypeId} {fz : Nat × Nat} : ∀ (vs : List Value) (o : Nat) (W : World) (cs : List Value), W.heap[b]? = some (.cells cs.toArray t fz) → o + vs.length ≤ cs.length →
    (W.setCells b o vs).heap[b]? = some (.cells (cs.take o ++ vs ++ cs.drop (o + vs.length)).toArray t fz)
  | [], o, W, cs, h, _ => by
    show W.heap[b]? = _
    simpa using h
  | v :: r, o, W, cs, h, hl => by
    rw [List.length_cons] at hl
    have h1 : (W.setCell ⟨b, o, none⟩ v).heap[b]? = some (.cells (cs.set o v).toArray t fz) := by
      rw [heap_set h o v]
      simp
    have ih := heap_setCells r (o + 1) _ _ h1 (by rw [List.length_set]; omega)
    show ((W.setCell ⟨b, o, none⟩ v).setCells b (o + 1) r).heap[b]? = _
    rw [ih, list_seg_step cs o v r hl]
    rfl
theorem setCells_other {b c : Nat} (hne : b ≠ c) : ∀ (vs : List Value) (o : Nat) (W : World), (W.setCells c o vs).heap[b]? = W.heap[b]?
  | [], _, _ => rfl
  | v :: r, o, W => (setCells_other hne r (o + 1) _).trans (Below.heap_setCell W ⟨c, o, none⟩ v b hne)
theorem strC_parts (s : Sv) (bl : List Int) (n : Int) : strC s bl n = u32C s.toList ++ (byC bl ++ [.int .u64 n]) := by simp [strC]
theorem u32C_eight (s : Sv) : (u32C s.toList).length = 8 := rfl
theorem byC_length (l : List Int) : (byC l).length = l.length := by simp [byC]
theorem strC_copy (s : Sv) (bl : List Int) (n : Int) (h : bl.length = 64) (at' : Nat) (new : List Int) (hk : at' + new.length ≤ 64) :
    (strC s bl n).take (8 + at') ++ byC new ++ (strC s bl n).drop (8 + at' + (byC new).length) = strC s (bl.take at' ++ new ++ bl.drop (at' + new.length)) n := by
  rw [strC_parts, strC_parts, byC_length]
  have e1 : (u32C s.toList ++ (byC bl ++ [Value.int .u64 n])).take (8 + at') = u32C s.toList ++ byC (bl.take at') := by
    rw [List.take_append, u32C_eight, List.take_of_length_le (by rw [u32C_eight]; omega), show 8 + at' - 8 = at' from by omega, List.take_append, byC_length, show at' - bl.length = 0 from by omega, List.take_zero, List.append_nil]
    unfold byC
    rw [List.map_take]
  have e2 : (u32C s.toList ++ (byC bl ++ [Value.int .u64 n])).drop (8 + at' + new.length) = byC (bl.drop (at' + new.length)) ++ [Value.int .u64 n] := by
    rw [List.drop_append, u32C_eight, List.drop_eq_nil_of_le (by rw [u32C_eight]; omega), List.nil_append, show 8 + at' + new.length - 8 = at' + new.length from by omega, List.drop_append, byC_length, show at' + new.length - bl.length = 0 from by omega, List.drop_zero]
    unfold byC
    rw [List.map_drop]
  rw [e1, e2]
  simp [byC]
theorem strC_n (s : Sv) (bl : List Int) (n m : Int) (h : bl.length = 64) : (strC s bl n).set 72 (.int .u64 m) = strC s bl m := by
  unfold strC
  rw [List.set_append_right _ _ (by rw [List.length_append, u32C_eight, byC_length, h]; omega), List.length_append, u32C_eight, byC_length, h]
  rfl
theorem strC_state (s s' : Sv) (bl : List Int) (n : Int) : (strC s bl n).take 0 ++ u32C s'.toList ++ (strC s bl n).drop (0 + (u32C s'.toList).length) = strC s' bl n := by
  rw [strC_parts, strC_parts, u32C_eight, List.take_zero, List.nil_append, List.drop_append, u32C_eight, List.drop_eq_nil_of_le (by rw [u32C_eight]; omega)]
  rfl
theorem arr_from (b o p : Nat) (hp : p < 64) (W : World) : (Instr.sliceAt 85 (.pointer (some ⟨b, o, none⟩)) (some (.int .i64 (p : Int))) none none).run Tryz.prog W = .ok (.slice (some ⟨b, o + p, none⟩) (64 - p) (64 - p)) W := by
  have ha : Tryz.prog.arrayLen 85 = 64 := by kernel_rfl
  have hs : ∀ W, (Go.sizeOf (Tryz.prog.elem 85)).run Tryz.prog W = .ok 1 W := fun W => by kernel_rfl
  rw [run_sliceAt_array_l W 85 ⟨b, o, none⟩ (by kernel_rfl) .i64 (p : Int) (by omega) (by rw [ha]; omega), hs, ha]
  show Result.ok (slicedAt ⟨b, o, none⟩ (p : Int).toNat 64 64 1) W = _
  unfold slicedAt
  rw [Int.toNat_natCast, if_neg (by omega), Nat.mul_one]
  simp [Addr.add]
theorem arr_all (b o : Nat) (W : World) : (Instr.sliceAt 85 (.pointer (some ⟨b, o, none⟩)) none none none).run Tryz.prog W = .ok (.slice (some ⟨b, o, none⟩) 64 64) W := by
  have ha : Tryz.prog.arrayLen 85 = 64 := by kernel_rfl
  have hs : ∀ W, (Go.sizeOf (Tryz.prog.elem 85)).run Tryz.prog W = .ok 1 W := fun W => by kernel_rfl
  rw [run_sliceAt_array_all W 85 ⟨b, o, none⟩ (by kernel_rfl), hs, ha]
  rfl
theorem addZ_step (f : Nat) (s : Sv) (bl : List Int) (n : Nat) (T : ByteArray) (k p : Nat) (hT : T.size ≠ 0) (hp : p = n % 64) (hk : k = min T.size (64 - p)) :
    addZ (f + 1) (s, bl, n) (nums T) = addZ f (if p + k = 64 then compZ' ks0 s (bl.take p ++ (nums T).take k ++ bl.drop (p + k)) else s, bl.take p ++ (nums T).take k ++ bl.drop (p + k), n + k) (nums (T.extract k T.size)) := by
  have hne : nums T ≠ [] := by
    intro e
    have := nums_len T
    rw [e] at this
    exact hT this.symm
  have hm : min (64 - p) (nums T).length = k := by rw [nums_len, hk]; omega
  have hx : nums (T.extract k T.size) = (nums T).drop k := by
    rw [nums_extract, List.take_of_length_le]
    rw [List.length_drop, nums_len]
    exact Nat.le_refl _
  rw [hx]
  show (if nums T = [] then (s, bl, n) else _) = _
  rw [if_neg hne]
  simp only [← hp, hm]
theorem str_set (s : Sv) (bl : List Int) (n m : Int) (h : bl.length = 64) : (strC s bl n).toArray.setIfInBounds 72 (.int .u64 m) = (strC s bl m).toArray := by
  rw [← strC_n s bl n m h]
  simp
theorem range_state {W : World} {b : Nat} {s : Sv} {bl : List Int} {n : Int} {t : TypeId} {fz : Nat × Nat} (h : W.heap[b]? = some (.cells (strC s bl n).toArray t fz)) : W.rangeAt b 0 (u32C s.toList) := fun j v hv => by
  rw [Nat.zero_add]
  simp only [World.cell?, h]
  have hj : j < (u32C s.toList).length := by
    rcases Nat.lt_or_ge j (u32C s.toList).length with h | h
    · exact h
    · rw [List.getElem?_eq_none h] at hv; cases hv
  have : (strC s bl n)[j]? = some v := by rw [strC_parts, List.getElem?_append_left hj]; exact hv
  simpa using this
theorem bytes_block {W : World} {b : Nat} {s : Sv} {bl : List Int} {n : Int} {t : TypeId} {fz : Nat × Nat} (h : W.heap[b]? = some (.cells (strC s bl n).toArray t fz)) (h64 : bl.length = 64) (hr : ∀ x ∈ bl, 0 ≤ x ∧ x < 256) : BytR W (.slice (some ⟨b, 8, none⟩) 64 64) bl := by
  refine ⟨⟨by rw [byC_length]; omega, some ⟨b, 8, none⟩, 64, by rw [h64], by omega, by decide, (fun e => by cases e), fun ad e _ => ?_⟩, hr⟩
  injection e with e
  subst e
  refine ⟨rfl, _, _, _, trivial, h, fun j u hu => ?_⟩
  have hj : j < (byC bl).length := by
    rcases Nat.lt_or_ge j (byC bl).length with h | h
    · exact h
    · rw [List.getElem?_eq_none h] at hu; cases hu
  have : (strC s bl n)[8 + j]? = some u := by
    rw [strC_parts, List.getElem?_append_right (by rw [u32C_eight]; omega), u32C_eight, show 8 + j - 8 = j from by omega, List.getElem?_append_left hj]
    exact hu
  simpa using this
def lenS : Value → Nat
  | .string t => t.size
  | _ => 0
def StrI (w : World) (B2 B4 : Nat) (F : Sv × List Int × Nat) (v : Value) (wr : World) : Prop :=
  ∃ (T : ByteArray) (s : Sv) (bl : List Int) (n f : Nat), v = .string T ∧ T.size ≤ f ∧ addZ f (s, bl, n) (nums T) = F ∧ bl.length = 64 ∧ (∀ x ∈ bl, 0 ≤ x ∧ x < 256) ∧ n + T.size < 2 ^ 62 ∧
    wr.heap[B2]? = some (.cells (strC s bl n).toArray 148) ∧ wr.heap[B4]? = some (.cells (strC ⟨0, 0, 0, 0, 0, 0, 0, 0⟩ (List.replicate 64 0) 0).toArray 148) ∧ Below w.heap.size w wr
theorem str_slice_from {P : Program} {t : TypeId} (h : P.underlying t = some .string) (s : ByteArray) (m : Nat) (hm : m ≤ s.size) (w : World) :
    (Instr.slice t (.string s) (some (.int .i64 (m : Int))) none none).run P w = .ok (.string (s.extract m s.size)) w := by
  have h2 : 0 ≤ (m : Int) := by omega
  simp [Instr.slice, run_underlying h, Instr.sliceBounds, Instr.sliceBound, asIntOf, hm, h2, Result.andThen]
set_option maxHeartbeats 8000000 in
theorem add_any (s0 : Sv) (bl0 : List Int) (n0 : Nat) (T0 : ByteArray) (f0 : Nat) (w : World) (hf : T0.size ≤ f0) (h64 : bl0.length = 64) (hbr : ∀ x ∈ bl0, 0 ≤ x ∧ x < 256) (hn : n0 + T0.size < 2 ^ 62) (hk : w.rangeAt 2 0 (u32C ks0)) :
    Calls Tryz.prog 93 #[.agg (strC s0 bl0 n0).toArray, .string T0] w fun e w' => e = .returned (.agg (strC (addZ f0 (s0, bl0, n0) (nums T0)).1 (addZ f0 (s0, bl0, n0) (nums T0)).2.1 (addZ f0 (s0, bl0, n0) (nums T0)).2.2).toArray) ∧ Below w.heap.size w w' := by
  obtain ⟨F, hF⟩ : ∃ F, F = addZ f0 (s0, bl0, n0) (nums T0) := ⟨_, rfl⟩
  rw [← hF]
  have HK := hidep hk
  clear hk
  go_enter Tryz.func93, Tryz.ntmps93
  go_upto_region 1 with (first
    | (refine wpList_alloc_row (o := ⟨some 4, _, _, _, _, _⟩) zero_stream _ rfl rfl ?_)
    | fail)
  refine wp_abs (fun X => X.heap[w.heap.size]? = some (.cells (strC s0 bl0 n0).toArray 148) ∧ X.heap[w.heap.size + 1]? = some (.cells (strC ⟨0, 0, 0, 0, 0, 0, 0, 0⟩ (List.replicate 64 0) 0).toArray 148) ∧ Below w.heap.size w X)
    ⟨allocs_get [.cells (strC s0 bl0 n0).toArray 148, .cells (strC ⟨0, 0, 0, 0, 0, 0, 0, 0⟩ (List.replicate 64 0) 0).toArray 148] w 0 _ rfl, allocs_get [.cells (strC s0 bl0 n0).toArray 148, .cells (strC ⟨0, 0, 0, 0, 0, 0, 0, 0⟩ (List.replicate 64 0) 0).toArray 148] w 1 _ rfl, ((Below.refl _ _).alloc (Nat.le_refl _) _).alloc (by simp) _⟩ ?_
  rintro X ⟨hq2, hq4, hbX⟩
  simp only [World.size_alloc]
  obtain ⟨B2, hB2⟩ : ∃ B2, B2 = w.heap.size := ⟨_, rfl⟩
  obtain ⟨B4, hB4⟩ : ∃ B4, B4 = w.heap.size + 1 := ⟨_, rfl⟩
  rw [← hB4] at hq4
  rw [← hB2] at hq2
  rw [← hB4, ← hB2]
  have HBB := hidep (show w.heap.size ≤ B2 ∧ w.heap.size ≤ B4 ∧ B2 ≠ B4 from by omega)
  clear hB2 hB4
  have HF := hidep hF.symm
  clear hF
  refine wp_loop (LoopI 38 (fun tm ds wr => (slot tm 2) = .pointer (some ⟨B2, 0, none⟩) ∧ (slot tm 4) = .pointer (some ⟨B4, 0, none⟩) ∧ ds = [] ∧ StrI w B2 B4 F (slot tm 1) wr)) (fun a' wr => lenS (a'.tmps.getD 1 undef)) ?mainStart ?mainRound
  case' mainStart => refine LoopI.mk rfl ?_
  case' mainRound => (rintro ⟨t, ds⟩ wr ⟨hts, hrel⟩; dsimp only at hts hrel; rw [frame38 t ds hts])
  case mainStart => exact ⟨rfl, rfl, rfl, T0, s0, bl0, n0, f0, rfl, hf, HF.out, h64, hbr, hn, hq2, hq4, hbX⟩
  clear HF hf h64 hbr hn hq2 hq4 hbX
  obtain ⟨h2, h4, hds, T, s, bl, n, f, h1, hf, hF, h64, hbr, hn, hq2, hq4, hbw⟩ := hrel
  subst hds
  rw [h1, h2, h4]
  clear h1 h2 h4 hts
  have hi0 : (strC s bl n)[72]? = some (.int .u64 (n : Int)) := by
    rw [strC_parts, List.getElem?_append_right (by rw [u32C_eight]; omega), u32C_eight, List.getElem?_append_right (by rw [byC_length]; omega), byC_length, h64]
    rfl
  have hc72 : wr.cell? ⟨B2, 72, none⟩ = some (.int .u64 (n : Int)) := by
    simp only [World.cell?, hq2]
    simpa using hi0
  by_cases hT : T.size = 0
  · have hz : T.toList.isEmpty = true := by
      rw [ByteArray.toList_eq, List.isEmpty_iff]
      exact List.eq_nil_of_length_eq_zero (by rw [Array.length_toList]; exact hT)
    have hFe : F = (s, bl, n) := by
      have : nums T = [] := List.eq_nil_of_length_eq_zero (by rw [nums_len]; exact hT)
      rw [← hF, this, addZ_nil]
    have hl73 : (strC s bl n).length = 73 := strC_len _ _ _ h64
    obtain ⟨W2, hW2⟩ : ∃ W2, W2 = wr.setCells B4 0 (strC s bl n) := ⟨_, rfl⟩
    have HL := hidep (show wr.rangeAt B2 0 (strC s bl n) from range_of_arr hq2)
    have HTH := hidep (show wr.there B4 0 (strC s bl n).toArray.size from there_of_arr hq4 (by rw [List.size_toArray, List.size_toArray, hl73, strC_len _ _ _ (by simp)]; exact Nat.le_refl _))
    have HI8 := hidep (show (Tryz.prog.info? 148).map (·.size) = some (strC s bl n).toArray.size ∧ (Tryz.prog.info? 148).map (·.size) = some (strC s bl n).length from ⟨by rw [List.size_toArray, hl73]; exact row_stream.2, by rw [hl73]; exact row_stream.2⟩)
    have HONE8 := hidep (all_oneCell_toArray (strC_one s bl n))
    have HEND := hidep (show W2.rangeAt B4 0 (strC s bl n) ∧ Below w.heap.size w W2 from by
      rw [hW2]
      refine ⟨World.rangeAt_setCells_same _ _ _ _ ?_, below_setCells B4 HBB.out.2.1 _ _ _ hbw⟩
      have := HTH.out
      rwa [List.size_toArray] at this)
    have HW2 := hidep hW2
    have HFE := hidep hFe
    clear hq2 hq4 hbw hW2 hl73 hFe hF hi0 hc72
    go_upto_region 8 with (fail)
    refine wp_region_lit ?_
    refine wpList_load_mid (op := ⟨some 37, _, _, _, _, _⟩) rfl 148 _ rfl B2 0 rfl _ _ HL.out row_stream.1.choose_spec.1 row_stream.1.choose_spec.2 HI8.out.2 ?_
    refine wpList_store_to (op := ⟨none, _, _, _, _, _⟩) rfl 148 _ _ rfl B4 0 (strC s bl n).toArray rfl rfl HTH.out HI8.out.1 HONE8.out W2 HW2.out.symm ?_
    go_wp2
    refine bodyPost_ret (results_cell1 rfl _ _ _ rfl (run_loadVar_mid (P := Tryz.prog) W2 B4 0 148 (strC s bl n) _ HEND.out.1 row_stream.1.choose_spec.1 row_stream.1.choose_spec.2 HI8.out.2)) rfl ?_
    exact ⟨by rw [HFE.out], HEND.out.2⟩
  · have hz : T.toList.isEmpty = false := by
      rw [ByteArray.toList_eq]
      cases h : T.data.toList with
      | nil => exact absurd (by show T.data.size = 0; rw [← Array.length_toList, h]; rfl) hT
      | cons a l => rfl
    obtain ⟨p, hp⟩ : ∃ p, p = n % 64 := ⟨_, rfl⟩
    obtain ⟨k, hk⟩ : ∃ k, k = min T.size (64 - p) := ⟨_, rfl⟩
    have hrt : Int.tmod (n : Int) 64 = (p : Int) := by rw [Int.tmod_eq_emod_of_nonneg (by omega)]; omega
    have hre : (n : Int) % 64 = (p : Int) := by omega
    have hp64 : p < 64 := by omega
    have hdz : ¬ ((64 : Int) = 0) := by decide
    have hcne : ¬ 64 = p := by omega
    have hwp : IntKind.i64.wrap (p : Int) = (p : Int) := IntWalk.i64_in _ (by omega)
    have HP := hidep hp
    have HK2 := hidep hk
    clear hp hk
    go_upto_region 3 with (fail)
    obtain ⟨bl3, hbl3⟩ : ∃ bl3, bl3 = bl.take p ++ (nums T).take k ++ bl.drop (p + k) := ⟨_, rfl⟩
    have hkT : k ≤ T.size ∧ k ≤ 64 - p ∧ 0 < k := by have := HK2.out; omega
    have hkl : ((nums T).take k).length = k := by rw [List.length_take, nums_len]; omega
    have hb3l : bl3.length = 64 := by
      rw [hbl3, List.length_append, List.length_append, hkl, List.length_take, List.length_drop, h64]
      omega
    have hb3r : ∀ x ∈ bl3, 0 ≤ x ∧ x < 256 := by
      intro x hx
      rw [hbl3] at hx
      rcases List.mem_append.1 hx with hx | hx
      · rcases List.mem_append.1 hx with hx | hx
        · exact hbr x (List.mem_of_mem_take hx)
        · exact nums_rng T x (List.mem_of_mem_take hx)
      · exact hbr x (List.mem_of_mem_drop hx)
    have hTH : wr.there B2 (8 + p) k := fun j hj => by
      constructor
      · simp only [World.cell?, hq2]
        have : 8 + p + j < (strC s bl n).length := by rw [strC_len _ _ _ h64]; omega
        simp [this]
      · simp [World.frozen?, hq2]
    obtain ⟨W3, hW3⟩ : ∃ W3, W3 = wr.setCells B2 (8 + p) (byC ((nums T).take k)) := ⟨_, rfl⟩
    have hq23 : W3.heap[B2]? = some (.cells (strC s bl3 n).toArray 148) := by
      have h := heap_setCells (byC ((nums T).take k)) (8 + p) wr _ hq2 (by rw [byC_length, hkl, strC_len _ _ _ h64]; omega)
      rw [strC_copy s bl n h64 p _ (by rw [hkl]; omega), hkl, ← hbl3] at h
      rw [hW3, h]
    have hq43 : W3.heap[B4]? = some (.cells (strC ⟨0, 0, 0, 0, 0, 0, 0, 0⟩ (List.replicate 64 0) 0).toArray 148) := by
      rw [hW3]
      exact (setCells_other (Ne.symm HBB.out.2.2) _ _ _).trans hq4
    have hbw3 : Below w.heap.size w W3 := by
      rw [hW3]
      exact below_setCells B2 HBB.out.1 _ _ _ hbw
    have hu36 : Tryz.prog.underlying 81 = some (.slice 5) := by kernel_rfl
    have hs36 : ∀ w, (Go.sizeOf 5).run Tryz.prog w = .ok 1 w := fun w => by kernel_rfl
    have hsl := fun W => arr_from B2 8 p hp64 W
    have HB3 := hidep (And.intro hb3l (And.intro hb3r hbl3))
    have HT := hidep (And.intro hf (And.intro hF (And.intro h64 (And.intro hbr hn))))
    have HW3 := hidep hW3.symm
    clear hf hF h64 hbr hn hb3l hb3r hbl3 hkl hW3 hq2 hq4 hbw hi0 hc72 hrt hre hdz hT
    go_upto_region 4 with (first
      | (refine wpList_copy (o := ⟨some 17, _, _, _, _, _⟩) rfl _ _ _ _ rfl 5 hu36 hs36 B2 (8 + p) (64 - p) (64 - p) T k HK2.out rfl rfl hTH W3 HW3.out ?_)
      | fail)
    have hss := fun W => str_slice_from (P := Tryz.prog) (t := 9) (by kernel_rfl) T k hkT.1 W
    have hc72 : W3.cell? ⟨B2, 72, none⟩ = some (.int .u64 (n : Int)) := by
      have hi0 : (strC s bl3 n)[72]? = some (.int .u64 (n : Int)) := by
        rw [strC_parts, List.getElem?_append_right (by rw [u32C_eight]; omega), u32C_eight, List.getElem?_append_right (by rw [byC_length, HB3.out.1]; omega), byC_length, HB3.out.1]
        rfl
      simp only [World.cell?, hq23]
      simpa using hi0
    have f72 := box_frozen hq23 72
    have hwk : IntKind.u64.wrap (k : Int) = (k : Int) := by show (k : Int) % 2 ^ 64 = _; omega
    have hwn : IntKind.u64.wrap ((n : Int) + (k : Int)) = ((n + k : Nat) : Int) := by
      have := HT.out.2.2.2.2
      show ((n : Int) + (k : Int)) % 2 ^ 64 = _
      omega
    have hp64 : p < 64 := by rw [HP.out]; omega
    have hwpk : IntKind.i64.wrap ((p : Int) + (k : Int)) = ((p + k : Nat) : Int) := by rw [IntWalk.i64_in _ (by omega)]; omega
    obtain ⟨T2, hT2⟩ : ∃ T2, T2 = T.extract k T.size := ⟨_, rfl⟩
    rw [← hT2] at hss
    have HW5 := hidep (And.intro hq23 (And.intro hq43 hbw3))
    have HT2 := hidep hT2
    clear hq23 hq43 hbw3 hsl hT2 hwp hcne hu36 hs36
    go_upto_region 6 with (fail)
    obtain ⟨hq23, hq43, hbw3⟩ := HW5.out
    refine wp_abs (fun X => X.heap[B2]? = some (.cells (strC s bl3 ((n + k : Nat) : Int)).toArray 148) ∧ X.heap[B4]? = some (.cells (strC ⟨0, 0, 0, 0, 0, 0, 0, 0⟩ (List.replicate 64 0) 0).toArray 148) ∧ Below w.heap.size w X)
      ⟨by rw [heap_set hq23 72 _, str_set _ _ _ _ HB3.out.1]; rfl, (Below.heap_setCell W3 ⟨B2, 72, none⟩ _ B4 (Ne.symm HBB.out.2.2)).trans hq43, below_set hbw3 ⟨B2, 72, none⟩ _ HBB.out.1⟩ ?_
    clear hq23 hq43 hbw3 HW5 HW3 f72 hc72 hTH
    rintro X ⟨hq2, hq4, hbx⟩
    obtain ⟨f', hf'⟩ : ∃ f', f = f' + 1 := ⟨f - 1, by have := HT.out.1; omega⟩
    have hstep : addZ f' (if p + k = 64 then compZ' ks0 s bl3 else s, bl3, n + k) (nums T2) = F := by
      have h := HT.out.2.1
      rw [hf', addZ_step f' s bl n T k p (by omega) HP.out HK2.out, ← HB3.out.2.2, ← HT2.out] at h
      exact h
    have hT2s : T2.size = T.size - k := by rw [HT2.out, ByteArray.size_extract]; omega
    by_cases hend : p + k = 64
    · have hendi : ((p + k : Nat) : Int) = 64 := by omega
      rw [if_pos hend] at hstep
      have HST := hidep hstep
      obtain ⟨s', hs'⟩ : ∃ s', s' = compZ' ks0 s bl3 := ⟨_, rfl⟩
      rw [← hs'] at HST
      have hkr : X.rangeAt 2 0 (u32C ks0) := by
        intro j v hv
        have h0 := HK.out j v hv
        have hlt : (2 : Nat) < w.heap.size := by
          by_cases h : (2 : Nat) < w.heap.size
          · exact h
          · have : w.heap[(2 : Nat)]? = none := Array.getElem?_eq_none (by omega)
            simp [World.cell?, this] at h0
        exact (hbx.cell (p := ⟨2, 0 + j, none⟩) hlt).trans h0
      have hbb := bytes_block hq2 HB3.out.1 HB3.out.2.1
      have HC := hidep (show ∀ W, Below X.heap.size X W → Calls Tryz.prog 102 #[.agg (u32C s.toList).toArray, .slice (some ⟨B2, 8, none⟩) 64 64] W fun e w' => e = .returned (.agg (u32C s'.toList).toArray) ∧ Below W.heap.size W w' from fun W hW => by
        rw [hs']
        exact compress_any s _ bl3 W (hbb.below hW) HB3.out.1 (fun j v hv => by
          have hlt : (2 : Nat) < X.heap.size := World.block_lt_of_cell? X ⟨2, 0 + j, none⟩ (hkr j v hv)
          exact (hW.cell (p := ⟨2, 0 + j, none⟩) hlt).trans (hkr j v hv)))
      have HLD := hidep (range_state hq2)
      have y0 := HLD.out 0 _ rfl
      have y1 := HLD.out 1 _ rfl
      have y2 := HLD.out 2 _ rfl
      have y3 := HLD.out 3 _ rfl
      have y4 := HLD.out 4 _ rfl
      have y5 := HLD.out 5 _ rfl
      have y6 := HLD.out 6 _ rfl
      have y7 := HLD.out 7 _ rfl
      simp only [Nat.zero_add] at y0 y1 y2 y3 y4 y5 y6 y7
      have hsa := fun W => arr_all B2 8 W
      have HMK := hidep (show ∀ w5, Below X.heap.size X w5 → w5.rangeAt B2 0 (u32C s.toList) ∧ w5.heap[B2]? = some (.cells (strC s bl3 ((n + k : Nat) : Int)).toArray 148) ∧ (w5.setCells B2 0 (u32C s'.toList)).heap[B2]? = some (.cells (strC s' bl3 ((n + k : Nat) : Int)).toArray 148) ∧ (w5.setCells B2 0 (u32C s'.toList)).heap[B4]? = some (.cells (strC ⟨0, 0, 0, 0, 0, 0, 0, 0⟩ (List.replicate 64 0) 0).toArray 148) ∧ Below w.heap.size w (w5.setCells B2 0 (u32C s'.toList)) from by
        intro w5 hb5
        have h2 := below_push hb5 hq2
        have h4 := below_push hb5 hq4
        have hs := heap_setCells (u32C s'.toList) 0 w5 _ h2 (by rw [strC_len _ _ _ HB3.out.1, u32C_eight]; omega)
        rw [strC_state] at hs
        exact ⟨range_state h2, h2, hs, (setCells_other (Ne.symm HBB.out.2.2) _ _ _).trans h4, below_setCells B2 HBB.out.1 _ _ _ (hbx.trans (hb5.mono hbx.size))⟩)
      have HTU := hidep (fun w5 (h : Below X.heap.size X w5) => turned_setCells B2 (T := fun b => b = B2) rfl (u32C s'.toList) 0 w5 (Turned.of_below h))
      have hI8 := hidep (show (Tryz.prog.info? 146).map (·.size) = some (u32C s.toList).length ∧ (Tryz.prog.info? 146).map (·.size) = some (u32C s'.toList).toArray.size from ⟨by rw [u32C_eight]; exact row_u32x8.2, by rw [List.size_toArray, u32C_eight]; exact row_u32x8.2⟩)
      have hO8 := hidep (all_oneCell_toArray (u32C_one s'.toList))
      clear hstep hs' hkr hbb hq2 hq4 hbx hend y0 y1 y2 y3 y4 y5 y6 y7
      go_upto_region 7 with (fail)
      refine wp_region_noPanic (wp_region_held_drew (S := (fun Y => Turned (fun b => b = B2) X Y)) (by kernel_rfl) ?hS93r7n0 (fun hHeld => ?hR93r7n0))
      case hS93r7n0 => ((try dsimp only); (exact (Turned.refl _ _).drew))
      refine wpAnyH_take (i := 0) (v := ?v93r7n0q1) rfl (by kernel_rfl) (by kernel_rfl) (by kernel_rfl) (fun _ _ _ h => h) (Or.inl ⟨by kernel_rfl, ?hy93r7n0q1⟩) (by assumption) ?hr93r7n0q1
      case hy93r7n0q1 => (intro w hSw; (try dsimp only at hSw); skip; first | (go_simp; done) | (go_simp; with_reducible rfl))
      refine wpAnyH_take (i := 2) (v := ?v93r7n0q2) rfl (by kernel_rfl) (by kernel_rfl) (by kernel_rfl) (fun _ _ _ h => h) (Or.inl ⟨by kernel_rfl, ?hy93r7n0q2⟩) (by assumption) ?hr93r7n0q2
      case hy93r7n0q2 => (intro w hSw; (try dsimp only at hSw); skip; first | (go_simp; done) | (go_simp; with_reducible rfl))
      refine wpAnyH_take (i := 3) (v := ?v93r7n0q3) rfl (by kernel_rfl) (by kernel_rfl) (by kernel_rfl) (fun _ _ _ h => h) (Or.inl ⟨by kernel_rfl, ?hy93r7n0q3⟩) (by assumption) ?hr93r7n0q3
      case hy93r7n0q3 => (intro w hSw; (try dsimp only at hSw); skip; first | (go_simp; done) | (go_simp; with_reducible rfl))
      refine wpAnyH_ready (rs := [1]) (by kernel_rfl) (by simp) (AllReadyH.cons rfl (fun K hK => ?hc93r7n0q4) AllReadyH.nil)
      (refine step_load_mid rfl 146 _ rfl B2 0 rfl (u32C s.toList) _ HLD.out row_u32x8.1.choose_spec.1 row_u32x8.1.choose_spec.2 hI8.out.1 ?_)
      refine hK.out _ _ ?hs93r7n0q4 (fun hHeld93r7n0q4 => ?ht93r7n0q4)
      case hs93r7n0q4 => ((try dsimp only); (first | (with_reducible exact hHeld) | exact hk | exact hk.drew))
      clear hHeld hK
      have hHeld := hHeld93r7n0q4
      clear hHeld93r7n0q4
      refine wpAnyH_ready (rs := [4]) (by kernel_rfl) (by simp) (AllReadyH.cons rfl (fun K hK => ?hc93r7n0q5) AllReadyH.nil)
      go_simp
      (go_at_call 102; refine (HC.out _ (Below.refl _ _).drew).mono ?_; rintro e w5 ⟨rfl, hb5⟩; (have hb5 := (Below.refl X.heap.size X).drew.trans hb5); obtain ⟨HZ5, hq25, hE, hE4, hEb⟩ := HMK.out w5 hb5; have hk := Turned.of_below (T := fun b => b = B2) hb5; (try dsimp only))
      refine hK.out _ _ ?hs93r7n0q5 (fun hHeld93r7n0q5 => ?ht93r7n0q5)
      case hs93r7n0q5 => ((try dsimp only); (first | (with_reducible exact hHeld) | exact hk | exact hk.drew))
      clear hHeld hK
      have hHeld := hHeld93r7n0q5
      clear hHeld93r7n0q5
      refine wpAnyH_take (i := 5) (v := ?v93r7n0q6) rfl (by kernel_rfl) (by kernel_rfl) (by kernel_rfl) (fun _ _ _ h => h) (Or.inl ⟨by kernel_rfl, ?hy93r7n0q6⟩) (by assumption) ?hr93r7n0q6
      case hy93r7n0q6 => (intro w hSw; (try dsimp only at hSw); skip; first | (go_simp; done) | (go_simp; with_reducible rfl))
      refine wpAnyH_ready (rs := [6]) (by kernel_rfl) (by simp) (AllReadyH.cons rfl (fun K hK => ?hc93r7n0q7) AllReadyH.nil)
      (refine step_store_mid rfl 146 _ _ rfl B2 0 (u32C s'.toList).toArray rfl rfl (there_at hq25 (by rw [List.size_toArray, List.size_toArray, u32C_eight, strC_len _ _ _ HB3.out.1]; decide)) hI8.out.2 hO8.out _ rfl ?_; have hk := HTU.out _ hb5)
      refine hK.out _ _ ?hs93r7n0q7 (fun hHeld93r7n0q7 => ?ht93r7n0q7)
      case hs93r7n0q7 => ((try dsimp only); (first | (with_reducible exact hHeld) | exact hk | exact hk.drew))
      clear hHeld hK
      have hHeld := hHeld93r7n0q7
      clear hHeld93r7n0q7
      refine wpAnyH_done (by kernel_rfl) ?_ _
      clear hHeld
      refine NoPanic.normal ?_
      refine ⟨LoopI.mk rfl ⟨rfl, rfl, rfl, T2, s', bl3, n + k, f', rfl, by have := HT.out.1; omega, HST.out, HB3.out.1, HB3.out.2.1, by have := HT.out.2.2.2.2; omega, hE, hE4, hEb⟩, ?_⟩
      show T2.size < T.size
      omega
    · have hendi : ¬ ((p + k : Nat) : Int) = 64 := by omega
      rw [if_neg hend] at hstep
      have HST := hidep hstep
      clear hstep hend
      go_wp2
      refine ⟨LoopI.mk rfl ⟨rfl, rfl, rfl, T2, s, bl3, n + k, f', rfl, by have := HT.out.1; omega, HST.out, HB3.out.1, HB3.out.2.1, by have := HT.out.2.2.2.2; omega, hq2, hq4, hbx⟩, ?_⟩
      show T2.size < T.size
      omega
end Go.Proofs.YtipbkdlekanlmaaGreatDoor
