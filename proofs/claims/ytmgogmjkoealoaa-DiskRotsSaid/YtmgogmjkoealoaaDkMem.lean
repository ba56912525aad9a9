/- How the two disks lie in memory: words and what keeps them. -/
import Derived.Test.YtmgogmjkoealoaaDkPlain
import Derived.Test.YtmgogmjkoealoaaRows
import Derived.Maps.OwnSet
import Derived.Lib.SlKeysI
import Derived.Deep.MidRow
namespace Go.Proofs.Ytmgogmjkoealoaa
open Go.RowKit Go.Lab Go.Disk Go.Maps
/-- From w to w' only blocks from lo to hi, and new ones, have turned. -/
structure Turn (lo hi : Nat) (w w' : World) : Prop where
  os : w'.os = w.os
  tape : w'.tape = w.tape
  output : w'.output = w.output
  size : w.heap.size ≤ w'.heap.size
  block : ∀ k, k < w.heap.size → ¬ (lo ≤ k ∧ k < hi) → w'.heap[k]? = w.heap[k]?
section
variable {lo hi : Nat} {w w' w'' : World}
theorem Turn.refl (lo hi : Nat) (w : World) : Turn lo hi w w := ⟨rfl, rfl, rfl, Nat.le_refl _, fun _ _ _ => rfl⟩
theorem Turn.trans (h : Turn lo hi w w') (k : Turn lo hi w' w'') : Turn lo hi w w'' :=
  ⟨k.os.trans h.os, k.tape.trans h.tape, k.output.trans h.output, Nat.le_trans h.size k.size, fun i hi hn => (k.block i (Nat.lt_of_lt_of_le hi h.size) hn).trans (h.block i hi hn)⟩
theorem Turn.of_below (h : Below w.heap.size w w') : Turn lo hi w w' := ⟨h.os, h.tape, h.output, h.size, fun k hk _ => h.block k hk⟩
theorem Turn.below (h : Turn lo hi w w') {B : Nat} (hB : B ≤ lo) (hz : B ≤ w.heap.size) : Below B w w' := ⟨h.os, h.tape, h.output, h.size, fun k hk => h.block k (by omega) (by omega)⟩
theorem Turn.wider (h : Turn lo hi w w') {l2 h2 : Nat} (h1 : l2 ≤ lo) (h3 : hi ≤ h2) : Turn l2 h2 w w' := ⟨h.os, h.tape, h.output, h.size, fun k hk hn => h.block k hk (by omega)⟩
theorem Turn.grown {row : Option Nat} (h : w.grownBy w' row) (hr : ∀ k, row = some k → lo ≤ k ∧ k < hi) : Turn lo hi w w' :=
  ⟨h.os, h.tape, h.output, h.size, fun k hk hn => h.block k hk (fun e => hn (hr k e.symm))⟩
theorem Turn.setCell {a : Addr} (h1 : lo ≤ a.block) (h2 : a.block < hi) (v : Value) : Turn lo hi w (w.setCell a v) :=
  ⟨rfl, rfl, rfl, by simp [World.setCell], fun k _ hn => Below.heap_setCell _ _ _ k (fun e => hn (by rw [e]; exact ⟨h1, h2⟩))⟩
theorem Turn.drewN (n : Nat) : Turn lo hi w (w.drewN n) := ⟨rfl, rfl, rfl, Nat.le_refl _, fun _ _ _ => rfl⟩
theorem Turn.alloc (o : Obj) : Turn lo hi w (w.alloc o) := Turn.of_below ((Below.refl _ _).alloc (Nat.le_refl _) _)
theorem Turn.setCells {b : Nat} (h1 : lo ≤ b) (h2 : b < hi) : ∀ (vs : List Value) (o : Nat) (w : World), Turn lo hi w (w.setCells b o vs)
  | [], _, w => Turn.refl _ _ w
  | v :: r, o, w => by
    rw [World.setCells]
    exact Turn.trans (Turn.setCell (a := ⟨b, o, none⟩) h1 h2 v) (Turn.setCells h1 h2 r (o + 1) _)
end
/-- Block g is a row of type t that begins with the cells cs, and may be written. -/
def RowAt (w : World) (g : Nat) (t : TypeId) (cs : List Value) : Prop := ∃ cur, w.heap[g]? = some (.cells cur t (0, 0)) ∧ ∀ (j : Nat) (u : Value), cs[j]? = some u → cur[j]? = some u
section
variable {w w' : World} {g : Nat} {t : TypeId} {cs : List Value}
theorem RowAt.lt (h : RowAt w g t cs) : g < w.heap.size := by
  obtain ⟨cur, hb, _⟩ := h
  exact Go.lt_of_block hb
theorem RowAt.cell (h : RowAt w g t cs) {j : Nat} {u : Value} (hu : cs[j]? = some u) : w.cell? ⟨g, j, none⟩ = some u := by
  obtain ⟨cur, hb, hc⟩ := h
  simp only [World.cell?, hb]
  simpa using hc j u hu
theorem RowAt.free (h : RowAt w g t cs) (j : Nat) : w.frozen? ⟨g, j, none⟩ = false := by
  obtain ⟨cur, hb, hc⟩ := h
  simp [World.frozen?, hb]
theorem RowAt.of_block (h : RowAt w g t cs) (hb : w'.heap[g]? = w.heap[g]?) : RowAt w' g t cs := by
  obtain ⟨cur, h1, hc⟩ := h
  exact ⟨cur, hb.trans h1, hc⟩
theorem RowAt.of_turn {lo hi : Nat} (h : RowAt w g t cs) (hT : Turn lo hi w w') (hn : ¬ (lo ≤ g ∧ g < hi)) : RowAt w' g t cs := h.of_block (hT.block g h.lt hn)
theorem RowAt.setCell (h : RowAt w g t cs) {o : Nat} (_ho : o < cs.length) (v : Value) : RowAt (w.setCell ⟨g, o, none⟩ v) g t (cs.set o v) := by
  obtain ⟨cur, h1, hc⟩ := h
  refine ⟨cur.setIfInBounds o v, heap_setCell_same w g o cur t v h1, fun j u hu => ?_⟩
  have ho : o < cur.size := by
    have := hc o _ (List.getElem?_eq_getElem _ho)
    exact (Array.getElem?_eq_some_iff.1 this).1
  rw [List.getElem?_set] at hu
  rw [Array.getElem?_setIfInBounds]
  split at hu
  · rename_i e
    subst e
    rw [if_pos rfl, if_pos ho]
    exact hu
  · rename_i e
    rw [if_neg e]
    exact hc j u hu
theorem RowAt.other (h : RowAt w g t cs) {a : Addr} (hne : g ≠ a.block) (v : Value) : RowAt (w.setCell a v) g t cs := h.of_block (Below.heap_setCell _ _ _ g hne)
/-- cells written one behind the other -/
def spl : List Value → Nat → List Value → List Value
  | cs, _, [] => cs
  | cs, o, v :: r => spl (cs.set o v) (o + 1) r
theorem spl_len : ∀ (vs cs : List Value) (o : Nat), (spl cs o vs).length = cs.length
  | [], _, _ => rfl
  | v :: r, cs, o => by rw [spl, spl_len r]; simp
theorem RowAt.setCells : ∀ (vs cs : List Value) (o : Nat) (w : World), RowAt w g t cs → o + vs.length ≤ cs.length → RowAt (w.setCells g o vs) g t (spl cs o vs)
  | [], _, _, _, h, _ => h
  | v :: r, cs, o, w, h, hl => by
    rw [World.setCells, spl]
    simp only [List.length_cons] at hl
    exact RowAt.setCells r _ (o + 1) _ (h.setCell (by omega) v) (by simp; omega)
theorem RowAt.range (h : RowAt w g t cs) (o n : Nat) : w.rangeAt g o ((cs.drop o).take n) := fun j v hv => by
  refine h.cell ?_
  rw [List.getElem?_take] at hv
  split at hv
  · rwa [List.getElem?_drop] at hv
  · cases hv
theorem RowAt.there (h : RowAt w g t cs) {o n : Nat} (hl : o + n ≤ cs.length) : w.there g o n := fun j hj =>
  ⟨by rw [h.cell (List.getElem?_eq_getElem (by omega : o + j < cs.length))]; rfl, h.free _⟩
theorem RowAt.of_own {base k n : Nat} {e : TypeId} {v : Value} {xs : List Value} (h : w.ownsRow base e k v n xs) (hn : 0 < n) : ∃ g c, v = .slice (some ⟨g, 0, none⟩) n c ∧ base ≤ g ∧ n ≤ c ∧ c ≤ maxLen ∧ RowAt w g e xs := by
  rcases h.2 with ⟨_, rfl⟩ | ⟨g, cap, cur, rfl, hb, hg, hnc, hc, hs, ht⟩
  · omega
  · refine ⟨g, cap, rfl, hb, hnc, hc, cur, hg, fun j u hu => ?_⟩
    rw [← ht, List.getElem?_take] at hu
    split at hu
    · simpa using hu
    · cases hu
end
/-! ### lists of chunks of one length -/
section
variable {α : Type} {f : α → List Value} {c : Nat}
theorem chunk_len (hf : ∀ a, (f a).length = c) : ∀ l : List α, (l.flatMap f).length = l.length * c
  | [] => by simp
  | a :: l => by rw [List.flatMap_cons, List.length_append, hf, chunk_len hf l, List.length_cons, Nat.succ_mul]; omega
theorem chunk_drop (hf : ∀ a, (f a).length = c) : ∀ (l : List α) (k : Nat), (l.flatMap f).drop (k * c) = (l.drop k).flatMap f
  | l, 0 => by simp
  | [], k + 1 => by simp
  | a :: l, k + 1 => by
    rw [List.flatMap_cons, Nat.succ_mul, List.drop_append, List.drop_eq_nil_of_le (by rw [hf]; omega), hf, List.nil_append, Nat.add_sub_cancel, List.drop_succ_cons, chunk_drop hf l k]
theorem chunk_at (hf : ∀ a, (f a).length = c) (l : List α) {k : Nat} (hk : k < l.length) : ((l.flatMap f).drop (k * c)).take c = f l[k] := by
  rw [chunk_drop hf, List.drop_eq_getElem_cons hk, List.flatMap_cons]
  rw [List.take_append_of_le_length (by rw [hf]; exact Nat.le_refl _), List.take_of_length_le (by rw [hf]; exact Nat.le_refl _)]
theorem chunk_get (hf : ∀ a, (f a).length = c) (l : List α) {k j : Nat} (hk : k < l.length) (hj : j < c) : (l.flatMap f)[k * c + j]? = (f l[k])[j]? := by
  rw [← chunk_at hf l hk, List.getElem?_take, if_pos hj, List.getElem?_drop]
theorem set_append_low {a b : List Value} {i : Nat} (h : i < a.length) (v : Value) : (a ++ b).set i v = a.set i v ++ b := List.set_append_left i v h
theorem chunk_set (hf : ∀ a, (f a).length = c) : ∀ (l : List α) (k j : Nat) (v : Value) (x : α) (hk : k < l.length), j < c → f x = (f l[k]).set j v → (l.flatMap f).set (k * c + j) v = (l.set k x).flatMap f
  | a :: l, 0, j, v, x, _, hj, hx => by
    simp only [List.getElem_cons_zero] at hx
    rw [List.flatMap_cons, Nat.zero_mul, Nat.zero_add, set_append_low (by rw [hf]; exact hj), List.set_cons_zero, List.flatMap_cons, hx]
  | a :: l, k + 1, j, v, x, hk, hj, hx => by
    have e : (k + 1) * c + j = (f a).length + (k * c + j) := by rw [hf, Nat.succ_mul]; omega
    rw [List.flatMap_cons, e, List.set_append_right _ _ (by omega), Nat.add_sub_cancel_left, List.set_cons_succ, List.flatMap_cons, chunk_set hf l k j v x (by simpa using hk) hj (by simpa using hx)]
theorem spl_append_low : ∀ (vs a b : List Value) (o : Nat), o + vs.length ≤ a.length → spl (a ++ b) o vs = spl a o vs ++ b
  | [], _, _, _, _ => rfl
  | v :: r, a, b, o, h => by
    simp only [List.length_cons] at h
    rw [spl, spl, set_append_low (by omega), spl_append_low r _ b (o + 1) (by simp; omega)]
theorem spl_append_high : ∀ (vs a b : List Value) (o : Nat), spl (a ++ b) (a.length + o) vs = a ++ spl b o vs
  | [], _, _, _ => rfl
  | v :: r, a, b, o => by
    rw [spl, spl, List.set_append_right _ _ (by omega), Nat.add_sub_cancel_left, Nat.add_assoc, spl_append_high r a _ (o + 1)]
theorem chunk_spl (hf : ∀ a, (f a).length = c) : ∀ (l : List α) (k j : Nat) (vs : List Value) (x : α) (hk : k < l.length), j + vs.length ≤ c → f x = spl (f l[k]) j vs → spl (l.flatMap f) (k * c + j) vs = (l.set k x).flatMap f
  | a :: l, 0, j, vs, x, _, hj, hx => by
    simp only [List.getElem_cons_zero] at hx
    rw [List.flatMap_cons, Nat.zero_mul, Nat.zero_add, spl_append_low _ _ _ _ (by rw [hf]; exact hj), List.set_cons_zero, List.flatMap_cons, hx]
  | a :: l, k + 1, j, vs, x, hk, hj, hx => by
    have e : (k + 1) * c + j = (f a).length + (k * c + j) := by rw [hf, Nat.succ_mul]; omega
    rw [List.flatMap_cons, e, spl_append_high, List.set_cons_succ, List.flatMap_cons, chunk_spl hf l k j vs x (by simpa using hk) hj (by simpa using hx)]
theorem spl_eq : ∀ (vs cs : List Value) (o : Nat), o + vs.length ≤ cs.length → spl cs o vs = cs.take o ++ vs ++ cs.drop (o + vs.length)
  | [], cs, o, _ => by simp [spl]
  | v :: r, cs, o, h => by
    simp only [List.length_cons] at h
    rw [spl, spl_eq r _ (o + 1) (by simp; omega)]
    rw [List.take_set, List.drop_set_of_lt (by omega), List.take_succ_eq_append_getElem (by omega), List.set_append_right _ _ (by rw [List.length_take]; omega)]
    have e : o - (cs.take o).length = 0 := by rw [List.length_take]; omega
    rw [e, List.set_cons_zero, List.length_cons, List.append_assoc (cs.take o), List.singleton_append, List.append_assoc, List.append_assoc]
    congr 3
    omega
end
/-! ### bytes as cells -/
def cellsB (s : ByteArray) : List Value := (nums s).map (Value.int .u8)
theorem nums_len (s : ByteArray) : (nums s).length = s.size := by unfold nums; rw [List.length_map, Array.length_toList]; rfl
theorem cellsB_len (s : ByteArray) : (cellsB s).length = s.size := by simp [cellsB, nums_len]
theorem nums_rng (s : ByteArray) : ∀ x ∈ nums s, 0 ≤ x ∧ x < 256 := by
  intro x hx
  obtain ⟨b, _, rfl⟩ := List.mem_map.1 hx
  have := b.toNat_lt
  omega
theorem ofNat_toNat8 (b : UInt8) : UInt8.ofNat ((b.toNat : Int)).toNat = b := by simp
theorem str_nums (s : ByteArray) : strOfNums (nums s) = s := by
  unfold strOfNums nums
  rw [List.map_map]
  have : (fun n : Int => UInt8.ofNat n.toNat) ∘ (fun b : UInt8 => (b.toNat : Int)) = id := by funext b; simp
  rw [this, List.map_id]
theorem nums_inj {a b : ByteArray} (h : nums a = nums b) : a = b := by rw [← str_nums a, h, str_nums]
theorem cellsB_inj {a b : ByteArray} (h : cellsB a = cellsB b) : a = b := by
  refine nums_inj ?_
  unfold cellsB at h
  exact (List.map_inj_right (fun x y e => by simpa using e)).1 h
theorem cellsB_one (s : ByteArray) : ∀ u ∈ cellsB s, u.oneCell' = true := by
  intro u hu
  obtain ⟨x, _, rfl⟩ := List.mem_map.1 hu
  rfl
theorem cellsB_get (s : ByteArray) {j : Nat} (h : j < s.size) : (cellsB s)[j]? = some (.int .u8 ((nums s).getD j 0)) := by
  have : j < (nums s).length := by rw [nums_len]; exact h
  simp [cellsB, this]
theorem nums_get (s : ByteArray) {j : Nat} (h : j < s.size) : (nums s)[j]? = some ((s[j].toNat : Int)) := by
  unfold nums
  rw [List.getElem?_map]
  have : s.data.toList[j]? = some s[j] := by rw [Array.getElem?_toList]; exact Array.getElem?_eq_getElem h
  rw [this]; rfl
theorem nums_append (a b : ByteArray) : nums (a ++ b) = nums a ++ nums b := by simp [nums]
theorem nums_extract (s : ByteArray) (a b : Nat) : nums (s.extract a b) = ((nums s).drop a).take (b - a) := by
  unfold nums
  simp only [ByteArray.data_extract, Array.toList_extract, List.map_take, List.map_drop, List.extract_eq_take_drop]
def isByteV : Value → Bool
  | .int .u8 n => decide (0 ≤ n) && decide (n < 256)
  | _ => false
def decB : Value → UInt8
  | .int _ n => UInt8.ofNat n.toNat
  | _ => 0
/-- How a block reads as a map's element. -/
def blockElem : Value → Option (DataW Unit × List MemPlace)
  | .agg cs => if cs.size = 64 ∧ cs.toList.all isByteV = true then some (.lit (.string (cs.toList.map decB)), []) else none
  | _ => none
theorem decB_cells (s : ByteArray) : (cellsB s).map decB = s.data.toList := by
  unfold cellsB nums
  rw [List.map_map, List.map_map]
  have : (decB ∘ Value.int IntKind.u8) ∘ (fun b : UInt8 => (b.toNat : Int)) = id := by funext b; simp [decB]
  rw [this, List.map_id]
theorem blockElem_mk {s : ByteArray} (h : s.size = 64) : blockElem (.agg (cellsB s).toArray) = some (.lit (.string s.data.toList), []) := by
  have hc : (cellsB s).toArray.size = 64 ∧ (cellsB s).toArray.toList.all isByteV = true := by
    refine ⟨by simp [cellsB_len, h], ?_⟩
    rw [List.all_eq_true]
    intro v hv
    obtain ⟨x, hx, rfl⟩ := List.mem_map.1 (show v ∈ (nums s).map (Value.int .u8) from hv)
    have := nums_rng s x hx
    simp [isByteV, this]
  show (if (cellsB s).toArray.size = 64 ∧ (cellsB s).toArray.toList.all isByteV = true then _ else _) = _
  rw [if_pos hc]
  simp only [decB_cells]
theorem cells_decB : ∀ {cs : List Value}, cs.all isByteV = true → cellsB ⟨(cs.map decB).toArray⟩ = cs
  | [], _ => rfl
  | v :: cs, h => by
    rw [List.all_cons, Bool.and_eq_true] at h
    have ih := cells_decB h.2
    unfold cellsB nums at ih ⊢
    simp only [List.map_cons] at ih ⊢
    rw [ih]
    congr 1
    obtain ⟨h1, h2⟩ := h
    clear h2 ih
    cases v <;> simp only [isByteV, Bool.false_eq_true] at h1
    rename_i k n
    cases k <;> simp at h1
    simp [decB]
    omega
theorem blockElem_inv {v : Value} {s : ByteArray} {ps : List MemPlace} (h : blockElem v = some (.lit (.string s.data.toList), ps)) : v = .agg (cellsB s).toArray ∧ s.size = 64 := by
  unfold blockElem at h
  split at h
  · rename_i cs
    split at h
    · rename_i hc
      simp only [Option.some.injEq, Prod.mk.injEq, DataW.lit.injEq, Lit.string.injEq] at h
      have e := cells_decB hc.2
      rw [h.1] at e
      have e' : cellsB s = cs.toList := e
      have hs : s.size = 64 := by rw [← cellsB_len, e']; simpa using hc.1
      exact ⟨by rw [e'], hs⟩
    · cases h
  · cases h
end Go.Proofs.Ytmgogmjkoealoaa
