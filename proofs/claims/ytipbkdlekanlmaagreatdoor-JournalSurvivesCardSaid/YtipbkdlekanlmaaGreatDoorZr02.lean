/- How the two disks lie in memory: words and what keeps them. -/
import Derived.Test.YtipbkdlekanlmaaGreatDoorZr01
import Derived.Test.YtipbkdlekanlmaaGreatDoorRows
import Derived.Maps.OwnSet
import Derived.Lib.SlKeysI
import Derived.Deep.MidRow
namespace Go.Proofs.YtipbkdlekanlmaaGreatDoor
open Go.RowKit Go.Lab Go.Disk Go.Maps
/-- From w to w' only blocks from lo to hi, and new ones, have turned. -/
structure Turn (lo hi : Nat) (w w' : World) : Prop where
  os : w'.os = w.os
  tape : w'.tape = w.tape
  output : w'.output = w.output
  size : w.heap.size ≤ w'.heap.size
  block : ∀ k, k < w.heap.size → ¬ (lo ≤ k ∧ k < hi) → w'.heap[k]? = w.heap[k]?
section
variable {lo hi : Nat} {w w' w'' : World}
theorem Turn.refl (lo hi : Nat) (w : World) : Turn lo hi w w := ⟨rfl, rfl, rfl, Nat.le_refl _, fun _ _ _ => rfl⟩
theorem Turn.trans (h : Turn lo hi w w') (k : Turn lo hi w' w'') : Turn lo hi w w'' :=
  ⟨k.os.trans h.os, k.tape.trans h.tape, k.output.trans h.output, Nat.le_trans h.size k.size, fun i hi hn => (k.block i (Nat.lt_of_lt_of_le hi h.size) hn).trans (h.block i hi hn)⟩
theorem Turn.of_below (h : Below w.heap.size w w') : Turn lo hi w w' := ⟨h.os, h.tape, h.output, h.size, fun k hk _ => h.block k hk⟩
theorem Turn.below (h : Turn lo hi w w') {B : Nat} (hB : B ≤ lo) (hz : B ≤ w.heap.size) : Below B w w' := ⟨h.os, h.tape, h.output, h.size, fun k hk => h.block k (by omega) (by omega)⟩
theorem Turn.wider (h : Turn lo hi w w') {l2 h2 : Nat} (h1 : l2 ≤ lo) (h3 : hi ≤ h2) : Turn l2 h2 w w' := ⟨h.os, h.tape, h.output, h.size, fun k hk hn => h.block k hk (by omega)⟩
theorem Turn.grown {row : Option Nat} (h : w.grownBy w' row) (hr : ∀ k, row = some k → lo ≤ k ∧ k < hi) : Turn lo hi w w' :=
  ⟨h.os, h.tape, h.output, h.size, fun k hk hn => h.block k hk (fun e => hn (hr k e.symm))⟩
theorem Turn.setCell {a : Addr} (h1 : lo ≤ a.block) (h2 : a.block < hi) (v : Value) : Turn lo hi w (w.setCell a v) :=
  ⟨rfl, rfl, rfl, by simp [World.setCell], fun k _ hn => Below.heap_setCell _ _ _ k (fun e => hn (by rw [e]; exact ⟨h1, h2⟩))⟩
theorem Turn.drewN (n : Nat) : Turn lo hi w (w.drewN n) := ⟨rfl, rfl, rfl, Nat.le_refl _, fun _ _ _ => rfl⟩
theorem Turn.alloc (o : Obj) : Turn lo hi w (w.alloc o) := Turn.of_below ((Below.refl _ _).alloc (Nat.le_refl _) _)
theorem Turn.setCells {b : Nat} (h1 : lo ≤ b) (h2 : b < hi) : ∀ (vs : List Value) (o : Nat) (w : World), Turn lo hi w (w.setCells b o vs)
  | [], _, w => Turn.refl _ _ w
  | v :: r, o, w => by
    rw [World.setCells]
    exact Turn.trans (Turn.setCell (a := ⟨b, o, none⟩) h1 h2 v) (Turn.setCells h1 h2 r (o + 1) _)
end
/-- Block g is a row of type t that begins with the cells cs, and may be written. -/
def RowAt (w : World) (g : Nat) (t : TypeId) (cs : List Value) : Prop := ∃ cur, w.heap[g]? = some (.cells cur t (0, 0)) ∧ ∀ (j : Nat) (u : Value), cs[j]? = some u → cur[j]? = some u
section
variable {w w' : World} {g : Nat} {t : TypeId} {cs : List Value}
theorem RowAt.lt (h : RowAt w g t cs) : g < w.heap.size := by
  obtain ⟨cur, hb, _⟩ := h
  exact Go.lt_of_block hb
theorem RowAt.cell (h : RowAt w g t cs) {j : Nat} {u : Value} (hu : cs[j]? = some u) : w.cell? ⟨g, j, none⟩ = some u := by
  obtain ⟨cur, hb, hc⟩ := h
  simp only [World.cell?, hb]
  simpa using hc j u hu
theorem RowAt.free (h : RowAt w g t cs) (j : Nat) : w.frozen? ⟨g, j, none⟩ = false := by
  obtain ⟨cur, hb, hc⟩ := h
  simp [World.frozen?, hb]
theorem RowAt.of_block (h : RowAt w g t cs) (hb : w'.heap[g]? = w.heap[g]?) : RowAt w' g t cs := by
  obtain ⟨cur, h1, hc⟩ := h
  exact ⟨cur, hb.trans h1, hc⟩
theorem RowAt.of_turn {lo hi : Nat} (h : RowAt w g t cs) (hT : Turn lo hi w w') (hn : ¬ (lo ≤ g ∧ g < hi)) : RowAt w' g t cs := h.of_block (hT.block g h.lt hn)
theorem RowAt.setCell (h : RowAt w g t cs) {o : Nat} (_ho : o < cs.length) (v : Value) : RowAt (w.setCell ⟨g, o, none⟩ v) g t (cs.set o v) := by
  obtain ⟨cur, h1, hc⟩ := h
  refine ⟨cur.setIfInBounds o v, heap_setCell_same w g o cur t v h1, fun j u hu => ?_⟩
  have ho : o < cur.size := by
    have := hc o _ (List.getElem?_eq_getElem _ho)
    exact (Array.getElem?_eq_some_iff.1 this).1
  rw [List.getElem?_set] at hu
  rw [Array.getElem?_setIfInBounds]
  split at hu
  · rename_i e
    subst e
    rw [if_pos rfl, if_pos ho]
    exact hu
  · rename_i e
    rw [if_neg e]
    exact hc j u hu
theorem RowAt.other (h : RowAt w g t cs) {a : Addr} (hne : g ≠ a.block) (v : Value) : RowAt (w.setCell a v) g t cs := h.of_block (Below.heap_setCell _ _ _ g hne)
/-- cells written one behind the other -/
def spl : List Value → Nat → List Value → List Value
  | cs, _, [] => cs
  | cs, o, v :: r => spl (cs.set o v) (o + 1) r
theorem spl_len : ∀ (vs cs : List Value) (o : Nat), (spl cs o vs).length = cs.length
  | [], _, _ => rfl
  | v :: r, cs, o => by rw [spl, spl_len r]; simp
theorem RowAt.setCells : ∀ (vs cs : List Value) (o : Nat) (w : World), RowAt w g t cs → o + vs.length ≤ cs.length → RowAt (w.setCells g o vs) g t (spl cs o vs)
  | [], _, _, _, h, _ => h
  | v :: r, cs, o, w, h, hl => by
    rw [World.setCells, spl]
    simp only [List.length_cons] at hl
    exact RowAt.setCells r _ (o + 1) _ (h.setCell (by omega) v) (by simp; omega)
theorem RowAt.range (h : RowAt w g t cs) (o n : Nat) : w.rangeAt g o ((cs.drop o).take n) := fun j v hv => by
  refine h.cell ?_
  rw [List.getElem?_take] at hv
  split at hv
  · rwa [List.getElem?_drop] at hv
  · cases hv
theorem RowAt.there (h : RowAt w g t cs) {o n : Nat} (hl : o + n ≤ cs.length) : w.there g o n := fun j hj =>
  ⟨by rw [h.cell (List.getElem?_eq_getElem (by omega : o + j < cs.length))]; rfl, h.free _⟩
theorem RowAt.of_own {base k n : Nat} {e : TypeId} {v : Value} {xs : List Value} (h : w.ownsRow base e k v n xs) (hn : 0 < n) : ∃ g c, v = .slice (some ⟨g, 0, none⟩) n c ∧ base ≤ g ∧ n ≤ c ∧ c ≤ maxLen ∧ RowAt w g e xs := by
  rcases h.2 with ⟨_, rfl⟩ | ⟨g, cap, cur, rfl, hb, hg, hnc, hc, hs, ht⟩
  · omega
  · refine ⟨g, cap, rfl, hb, hnc, hc, cur, hg, fun j u hu => ?_⟩
    rw [← ht, List.getElem?_take] at hu
    split at hu
    · simpa using hu
    · cases hu
end
/-! ### lists of chunks of one length -/
section
variable {α : Type} {f : α → List Value} {c : Nat}
theorem chunk_len (hf : ∀ a, (f a).length = c) : ∀ l : List α, (l.flatMap f).length = l.length * c
  | [] => by simp
  | a :: l => by rw [List.flatMap_cons, List.length_append, hf, chunk_len hf l, List.length_cons, Nat.succ_mul]; omega
theorem chunk_drop (hf : ∀ a, (f a).length = c) : ∀ (l : List α) (k : Nat), (l.flatMap f).drop (k * c) = (l.drop k).flatMap f
  | l, 0 => by simp
  | [], k + 1 => by simp
  | a :: l, k + 1 => by
    rw [List.flatMap_cons, Nat.succ_mul, List.drop_append, List.drop_eq_nil_of_le (by rw [hf]; omega), hf, List.nil_append, Nat.add_sub_cancel, List.drop_succ_cons, chunk_drop hf l k]
theorem chunk_at (hf : ∀ a, (f a).length = c) (l : List α) {k : Nat} (hk : k < l.length) : ((l.flatMap f).drop (k * c)).take c = f l[k] := by
  rw [chunk_drop hf, List.drop_eq_getElem_cons hk, List.flatMap_cons]
  rw [List.take_append_of_le_length (by rw [hf]; exact Nat.le_refl _), List.take_of_length_le (by rw [hf]; exact Nat.le_refl _)]
theorem chunk_get (hf : ∀ a, (f a).length = c) (l : List α) {k j : Nat} (hk : k < l.length) (hj : j < c) : (l.flatMap f)[k * c + j]? = (f l[k])[j]? := by
  rw [← chunk_at hf l hk, List.getElem?_take, if_pos hj, List.getElem?_drop]
theorem set_append_low {a b : List Value} {i : Nat} (h : i < a.length) (v : Value) : (a ++ b).set i v = a.set i v ++ b := List.set_append_left i v h
theorem chunk_set (hf : ∀ a, (f a).length = c) : ∀ (l : List α) (k j : Nat) (v : Value) (x : α) (hk : k < l.length), j < c → f x = (f l[k]).set j v → (l.flatMap f).set (k * c + j) v = (l.set k x).flatMap f
  | a :: l, 0, j, v, x, _, hj, hx => by
    simp only [List.getElem_cons_zero] at hx
    rw [List.flatMap_cons, Nat.zero_mul, Nat.zero_add, set_append_low (by rw [hf]; exact hj), List.set_cons_zero, List.flatMap_cons, hx]
  | a :: l, k + 1, j, v, x, hk, hj, hx => by
    have e : (k + 1) * c + j = (f a).length + (k * c + j) := by rw [hf, Nat.succ_mul]; omega
    rw [List.flatMap_cons, e, List.set_append_right _ _ (by omega), Nat.add_sub_cancel_left, List.set_cons_succ, List.flatMap_cons, chunk_set hf l k j v x (by simpa using hk) hj (by simpa using hx)]
theorem spl_append_low : ∀ (vs a b : List Value) (o : Nat), o + vs.length ≤ a.length → spl (a ++ b) o vs = spl a o vs ++ b
  | [], _, _, _, _ => rfl
  | v :: r, a, b, o, h => by
    simp only [List.length_cons] at h
    rw [spl, spl, set_append_low (by omega), spl_append_low r _ b (o + 1) (by simp; omega)]
theorem spl_append_high : ∀ (vs a b : List Value) (o : Nat), spl (a ++ b) (a.length + o) vs = a ++ spl b o vs
  | [], _, _, _ => rfl
  | v :: r, a, b, o => by
    rw [spl, spl, List.set_append_right _ _ (by omega), Nat.add_sub_cancel_left, Nat.add_assoc, spl_append_high r a _ (o + 1)]
theorem chunk_spl (hf : ∀ a, (f a).length = c) : ∀ (l : List α) (k j : Nat) (vs : List Value) (x : α) (hk : k < l.length), j + vs.length ≤ c → f x = spl (f l[k]) j vs → spl (l.flatMap f) (k * c + j) vs = (l.set k x).flatMap f
  | a :: l, 0, j, vs, x, _, hj, hx => by
    simp only [List.getElem_cons_zero] at hx
    rw [List.flatMap_cons, Nat.zero_mul, Nat.zero_add, spl_append_low _ _ _ _ (by rw [hf]; exact hj), List.set_cons_zero, List.flatMap_cons, hx]
  | a :: l, k + 1, j, vs, x, hk, hj, hx => by
    have e : (k + 1) * c + j = (f a).length + (k * c + j) := by rw [hf, Nat.succ_mul]; omega
    rw [List.flatMap_cons, e, spl_append_high, List.set_cons_succ, List.flatMap_cons, chunk_spl hf l k j vs x (by simpa using hk) hj (by simpa using hx)]
theorem spl_eq : ∀ (vs cs : List Value) (o : Nat), o + vs.length ≤ cs.length → spl cs o vs = cs.take o ++ vs ++ cs.drop (o + vs.length)
  | [], cs, o, _ => by simp [spl]
  | v :: r, cs, o, h => by
    simp only [List.length_cons] at h
    rw [spl, spl_eq r _ (o + 1) (by simp; omega)]
    rw [List.take_set, List.drop_set_of_lt (by omega), List.take_succ_eq_append_getElem (by omega), List.set_append_right _ _ (by rw [List.length_take]; omega)]
    have e : o - (cs.take o).length = 0 := by rw [List.length_take]; omega
    rw [e, List.set_cons_zero, List.length_cons, List.append_assoc (cs.take o), List.singleton_append, List.append_assoc, List.append_assoc]
    congr 3
    omega
end
/-! ### bytes as cells -/
def cellsB (s : ByteArray) : List Value := (nums s).map (Value.int .u8)
theorem nums_len (s : ByteArray) : (nums s).length = s.size := by unfold nums; rw [List.length_map, Array.length_toList]; rfl
theorem cellsB_len (s : ByteArray) : (cellsB s).length = s.size := by simp [cellsB, nums_len]
theorem nums_rng (s : ByteArray) : ∀ x ∈ nums s, 0 ≤ x ∧ x < 256 := by
  intro x hx
  obtain ⟨b, _, rfl⟩ := List.mem_map.1 hx
  have := b.toNat_lt
  omega
theorem ofNat_toNat8 (b : UInt8) : UInt8.ofNat ((b.toNat : Int)).toNat = b := by simp
theorem str_nums (s : ByteArray) : strOfNums (nums s) = s := by
  unfold strOfNums nums
  rw [List.map_map]
  have : (fun n : Int => UInt8.ofNat n.toNat) ∘ (fun b : UInt8 => (b.toNat : Int)) = id := by funext b; simp
  rw [this, List.map_id]
theorem nums_inj {a b : ByteArray} (h : nums a = nums b) : a = b := by rw [← str_nums a, h, str_nums]
theorem cellsB_inj {a b : ByteArray} (h : cellsB a = cellsB b) : a = b := by
  refine nums_inj ?_
  unfold cellsB at h
  exact (List.map_inj_right (fun x y e => by simpa using e)).1 h
theorem cellsB_one (s : ByteArray) : ∀ u ∈ cellsB s, u.oneCell' = true := by
  intro u hu
  obtain ⟨x, _, rfl⟩ := List.mem_map.1 hu
  rfl
theorem cellsB_get (s : ByteArray) {j : Nat} (h : j < s.size) : (cellsB s)[j]? = some (.int .u8 ((nums s).getD j 0)) := by
  have : j < (nums s).length := by rw [nums_len]; exact h
  simp [cellsB, this]
theorem nums_get (s : ByteArray) {j : Nat} (h : j < s.size) : (nums s)[j]? = some ((s[j].toNat : Int)) := by
  unfold nums
  rw [List.getElem?_map]
  have : s.data.toList[j]? = some s[j] := by rw [Array.getElem?_toList]; exact Array.getElem?_eq_getElem h
  rw [this]; rfl
theorem nums_append (a b : ByteArray) : nums (a ++ b) = nums a ++ nums b := by simp [nums]
theorem nums_extract (s : ByteArray) (a b : Nat) : nums (s.extract a b) = ((nums s).drop a).take (b - a) := by
  unfold nums
  simp only [ByteArray.data_extract, Array.toList_extract, List.map_take, List.map_drop, List.extract_eq_take_drop]
def isByteV : Value → Bool
  | .int .u8 n => decide (0 ≤ n) && decide (n < 256)
  | _ => false
def decB : Value → UInt8
  | .int _ n => UInt8.ofNat n.toNat
  | _ => 0
/-- How a block reads as a map's element. -/
def blockElem : Value → Option (DataW Unit × List MemPlace)
  | .agg cs => if cs.size = 64 ∧ cs.toList.all isByteV = true then some (.lit (.string (cs.toList.map decB)), []) else none
  | _ => none
theorem decB_cells (s : ByteArray) : (cellsB s).map decB = s.data.toList := by
  unfold cellsB nums
  rw [List.map_map, List.map_map]
  have : (decB ∘ Value.int IntKind.u8) ∘ (fun b : UInt8 => (b.toNat : Int)) = id := by funext b; simp [decB]
  rw [this, List.map_id]
theorem blockElem_mk {s : ByteArray} (h : s.size = 64) : blockElem (.agg (cellsB s).toArray) = some (.lit (.string s.data.toList), []) := by
  have hc : (cellsB s).toArray.size = 64 ∧ (cellsB s).toArray.toList.all isByteV = true := by
    refine ⟨by simp [cellsB_len, h], ?_⟩
    rw [List.all_eq_true]
    intro v hv
    obtain ⟨x, hx, rfl⟩ := List.mem_map.1 (show v ∈ (nums s).map (Value.int .u8) from hv)
    have := nums_rng s x hx
    simp [isByteV, this]
  show (if (cellsB s).toArray.size = 64 ∧ (cellsB s).toArray.toList.all isByteV = true then _ else _) = _
  rw [if_pos hc]
  simp only [decB_cells]
theorem cells_decB : ∀ {cs : List Value}, cs.all isByteV = true → cellsB ⟨(cs.map decB).toArray⟩ = cs
  | [], _ => rfl
  | v :: cs, h => by
    rw [List.all_cons, Bool.and_eq_true] at h
    have ih := cells_decB h.2
    unfold cellsB nums at ih ⊢
    simp only [List.map_cons] at ih ⊢
    rw [ih]
    congr 1
    obtain ⟨h1, h2⟩ := h
    clear h2 ih
    cases v <;> simp only [isByteV, Bool.false_eq_true] at h1
    rename_i k n
    cases k <;> simp at h1
    simp [decB]
    omega
theorem blockElem_inv {v : Value} {s : ByteArray} {ps : List MemPlace} (h : blockElem v = some (.lit (.string s.data.toList), ps)) : v = .agg (cellsB s).toArray ∧ s.size = 64 := by
  unfold blockElem at h
  split at h
  · rename_i cs
    split at h
    · rename_i hc
      simp only [Option.some.injEq, Prod.mk.injEq, DataW.lit.injEq, Lit.string.injEq] at h
      have e := cells_decB hc.2
      rw [h.1] at e
      have e' : cellsB s = cs.toList := e
      have hs : s.size = 64 := by rw [← cellsB_len, e']; simpa using hc.1
      exact ⟨by rw [e'], hs⟩
    · cases h
  · cases h
end Go.Proofs.YtipbkdlekanlmaaGreatDoor
/- The two disks in memory: the word for each, and the maps of the program's disk as views of the sectors. -/
namespace Go.Proofs.YtipbkdlekanlmaaGreatDoor
open Go.RowKit Go.Lab Go.Disk Go.Maps
abbrev kI (i : Int) : Lit := .int .i64 i
def i64ok (i : Int) : Prop := (Lit.int .i64 i).wf = true
theorem i64_key (i : Int) : WideAt.IsKeyLit (kI i) := trivial
theorem i64ok_mk {i : Int} (h : -9223372036854775808 ≤ i ∧ i ≤ 9223372036854775807) : i64ok i := by
  unfold i64ok
  simp [Lit.wf, IntKind.min, IntKind.max, IntKind.signed, IntKind.bits]
  omega
theorem keyedInt : Keyed Tryz.prog 3 := int_keyed Tryz.underlying3
theorem keyI {i : Int} (h : i64ok i) : keyOf Tryz.prog 3 (.int .i64 i) = some (kI i) := keyOf_int_mk Tryz.underlying3 h
/-- What is pending for the sector i. -/
def pendAt (S : List Sec) (i : Int) : Option ByteArray := if 0 ≤ i ∧ i.toNat < S.length ∧ (atS S i.toNat).dirty = true then some (atS S i.toNat).next else none
def wornAt (S : List Sec) (i : Int) : Bool := decide (0 ≤ i) && (decide (i.toNat < S.length) && (atS S i.toNat).worn)
/-- What the map of what is pending reads at i. -/
def pendLit (o : Option ByteArray) (z : DataW Unit) : DataW Unit := match o with | some s => .lit (.string s.data.toList) | none => z
def wornLit (b : Bool) (z : DataW Unit) : DataW Unit := if b = true then .lit (.bool true) else z
def PendView (P : DataW Unit) (S : List Sec) : Prop := ∀ (i : Int) (z : DataW Unit), P.atKey (kI i) z = pendLit (pendAt S i) z
def WornView (W : DataW Unit) (S : List Sec) : Prop := ∀ (i : Int) (z : DataW Unit), W.atKey (kI i) z = wornLit (wornAt S i) z
def Lft (l left : Int) : Prop := left = (if l < 0 then -1 else l) ∧ -9223372036854775808 ≤ l ∧ l ≤ 9223372036854775807
def blocksC (S : List Sec) : List Value := S.flatMap fun x => cellsB x.text
def secC (x : Sec) : List Value := [.string x.text, .string x.next, .bool x.dirty, .bool x.worn]
def secsC (S : List Sec) : List Value := S.flatMap secC
abbrev pendMap (w : World) (b k : Nat) (P : DataW Unit) : Prop := w.ownsMap Tryz.prog 3 blockElem b k P
abbrev wornMap (w : World) (b k : Nat) (W : DataW Unit) : Prop := w.ownsMap Tryz.prog 3 (plainElem Tryz.prog 4) b k W
/-- The program's disk. -/
structure DiskIn (w : World) (lo hi b g mb wb c : Nat) (l : Int) (P W : DataW Unit) (D : Dk) : Prop where
  hb : lo ≤ b ∧ b < hi
  hg : lo ≤ g ∧ g < hi
  hm : lo ≤ mb ∧ mb < hi
  hw : lo ≤ wb ∧ wb < hi
  hi : hi ≤ w.heap.size
  ne : mb ≠ wb
  cap : D.s.length ≤ c ∧ c ≤ maxLen
  top : RowAt w b 77 [.slice (some ⟨g, 0, none⟩) D.s.length c, .map (some mb), .map (some wb), .bool D.off, .int .i64 l]
  row : RowAt w g 86 (blocksC D.s)
  pend : pendMap w mb (size P) P
  worn : wornMap w wb (size W) W
  pv : PendView P D.s
  wv : WornView W D.s
  lft : Lft l D.left
  ok : D.Ok
def DiskAt (w : World) (lo hi : Nat) (p : Value) (D : Dk) : Prop := ∃ b g mb wb c l P W, p = .pointer (some ⟨b, 0, none⟩) ∧ DiskIn w lo hi b g mb wb c l P W D
/-- The reference's disk. -/
structure RDiskIn (w : World) (lo hi b g c : Nat) (D : Dk) : Prop where
  hb : lo ≤ b ∧ b < hi
  hg : lo ≤ g ∧ g < hi
  hi : hi ≤ w.heap.size
  cap : D.s.length ≤ c ∧ c ≤ maxLen
  top : RowAt w b 80 [.slice (some ⟨g, 0, none⟩) D.s.length c, .bool D.off, .int .i64 D.left]
  row : RowAt w g 83 (secsC D.s)
  ok : D.Ok
  clean : ∀ x ∈ D.s, x.dirty = false → x.next = ByteArray.empty
def RDiskAt (w : World) (lo hi : Nat) (p : Value) (D : Dk) : Prop := ∃ b g c, p = .pointer (some ⟨b, 0, none⟩) ∧ RDiskIn w lo hi b g c D
section
variable {w w' : World} {lo hi : Nat} {p : Value} {D : Dk}
theorem ownsMap_block {R : Value → Option (DataW Unit × List MemPlace)} {b n : Nat} {M : DataW Unit} (h : w.ownsMap Tryz.prog 3 R b n M) (hb : w'.heap[b]? = w.heap[b]?) : w'.ownsMap Tryz.prog 3 R b n M := by
  obtain ⟨es, clock, h1, r⟩ := h
  exact ⟨es, clock, hb.trans h1, r⟩
theorem ownsMap_size {R : Value → Option (DataW Unit × List MemPlace)} {b n : Nat} {M : DataW Unit} (h : w.ownsMap Tryz.prog 3 R b n M) : w.ownsMap Tryz.prog 3 R b (size M) M := by
  obtain ⟨es, clock, h1, F, h2, rfl⟩ := h
  exact ⟨es, clock, h1, F, by simp [size, length_sorted], rfl⟩
theorem ownsMap_ne {R : Value → Option (DataW Unit × List MemPlace)} {b n g : Nat} {M : DataW Unit} {t : TypeId} {cs : List Value} (h : w.ownsMap Tryz.prog 3 R b n M) (hr : RowAt w g t cs) : b ≠ g := by
  rintro rfl
  obtain ⟨es, clock, h1, _⟩ := h
  obtain ⟨cur, h2, _⟩ := hr
  rw [h1] at h2
  cases h2
theorem row_ne {g g' : Nat} {t t' : TypeId} {cs cs' : List Value} (h : RowAt w g t cs) (h' : RowAt w g' t' cs') (hne : t ≠ t') : g ≠ g' := by
  rintro rfl
  obtain ⟨cur, h1, _⟩ := h
  obtain ⟨cur', h2, _⟩ := h'
  rw [h1] at h2
  injection h2 with h2
  injection h2 with _ h3 _
  exact hne h3
theorem DiskIn.keep {b g mb wb c : Nat} {l : Int} {P W : DataW Unit} (h : DiskIn w lo hi b g mb wb c l P W D) {lo' hi' : Nat} (hT : Turn lo' hi' w w') (hd : hi ≤ lo' ∨ hi' ≤ lo) : DiskIn w' lo hi b g mb wb c l P W D := by
  have hz := h.hi
  have e : ∀ k, lo ≤ k ∧ k < hi → w'.heap[k]? = w.heap[k]? := fun k hk => hT.block k (by omega) (by omega)
  exact ⟨h.hb, h.hg, h.hm, h.hw, Nat.le_trans hz hT.size, h.ne, h.cap, h.top.of_block (e _ h.hb), h.row.of_block (e _ h.hg), ownsMap_block h.pend (e _ h.hm), ownsMap_block h.worn (e _ h.hw), h.pv, h.wv, h.lft, h.ok⟩
theorem DiskAt.keep (h : DiskAt w lo hi p D) {lo' hi' : Nat} (hT : Turn lo' hi' w w') (hd : hi ≤ lo' ∨ hi' ≤ lo) : DiskAt w' lo hi p D := by
  obtain ⟨b, g, mb, wb, c, l, P, W, hp, h⟩ := h
  exact ⟨b, g, mb, wb, c, l, P, W, hp, h.keep hT hd⟩
theorem DiskAt.below (h : DiskAt w lo hi p D) (hT : Below w.heap.size w w') : DiskAt w' lo hi p D := by
  obtain ⟨b, g, mb, wb, c, l, P, W, hp, h⟩ := h
  refine ⟨b, g, mb, wb, c, l, P, W, hp, ?_⟩
  exact h.keep (lo' := hi) (hi' := hi) (Turn.of_below hT) (.inl (Nat.le_refl _))
theorem RDiskIn.keep {b g c : Nat} (h : RDiskIn w lo hi b g c D) {lo' hi' : Nat} (hT : Turn lo' hi' w w') (hd : hi ≤ lo' ∨ hi' ≤ lo) : RDiskIn w' lo hi b g c D := by
  have hz := h.hi
  have e : ∀ k, lo ≤ k ∧ k < hi → w'.heap[k]? = w.heap[k]? := fun k hk => hT.block k (by omega) (by omega)
  exact ⟨h.hb, h.hg, Nat.le_trans hz hT.size, h.cap, h.top.of_block (e _ h.hb), h.row.of_block (e _ h.hg), h.ok, h.clean⟩
theorem RDiskAt.keep (h : RDiskAt w lo hi p D) {lo' hi' : Nat} (hT : Turn lo' hi' w w') (hd : hi ≤ lo' ∨ hi' ≤ lo) : RDiskAt w' lo hi p D := by
  obtain ⟨b, g, c, hp, h⟩ := h
  exact ⟨b, g, c, hp, h.keep hT hd⟩
theorem RDiskAt.below (h : RDiskAt w lo hi p D) (hT : Below w.heap.size w w') : RDiskAt w' lo hi p D := by
  obtain ⟨b, g, c, hp, h⟩ := h
  exact ⟨b, g, c, hp, h.keep (lo' := hi) (hi' := hi) (Turn.of_below hT) (.inl (Nat.le_refl _))⟩
theorem DiskAt.ok (h : DiskAt w lo hi p D) : D.Ok := by
  obtain ⟨b, g, mb, wb, c, l, P, W, hp, h⟩ := h
  exact h.ok
theorem DiskAt.rng (h : DiskAt w lo hi p D) : lo < hi ∧ hi ≤ w.heap.size := by
  obtain ⟨b, g, mb, wb, c, l, P, W, hp, h⟩ := h
  have := h.hb
  exact ⟨by omega, h.hi⟩
theorem RDiskAt.rng (h : RDiskAt w lo hi p D) : lo < hi ∧ hi ≤ w.heap.size := by
  obtain ⟨b, g, c, hp, h⟩ := h
  have := h.hb
  exact ⟨by omega, h.hi⟩
end
/-! ### the keys of the maps -/
theorem pend_has {P : DataW Unit} {S : List Sec} (h : PendView P S) (i : Int) : has P (kI i) = (pendAt S i).isSome := by
  cases hp : pendAt S i with
  | none => exact has_false_of_atKey (fun z => by rw [h i z, hp]; rfl)
  | some s => exact has_true_of_atKey (fun z => by rw [h i z, hp]; rfl)
theorem worn_has {W : DataW Unit} {S : List Sec} (h : WornView W S) (i : Int) : has W (kI i) = wornAt S i := by
  cases hp : wornAt S i with
  | false => exact has_false_of_atKey (fun z => by rw [h i z, hp]; rfl)
  | true => exact has_true_of_atKey (fun z => by rw [h i z, hp]; rfl)
theorem keys_perm_of {w : World} {R : Value → Option (DataW Unit × List MemPlace)} {b n : Nat} {M : DataW Unit} (h : w.ownsMap Tryz.prog 3 R b n M) {ss : List Int} (hs : ss.Pairwise (· < ·)) (hm : ∀ x, x ∈ ss ↔ has M (kI x) = true) : ss.Perm (intKeys M) := by
  obtain ⟨es, hD, hpw, _⟩ := h.entries keyedInt
  obtain ⟨es', hD', hko⟩ := h.keysOf
  obtain rfl : es = es' := by rw [hD] at hD'; simpa using hD'
  subst hD
  exact perm_intKeys hpw (fun p hp => by obtain ⟨v, hv⟩ := hko p hp; obtain ⟨x, _, hx, _⟩ := Maps.keyOf_i64 Tryz.underlying3 hv; exact ⟨x, hx⟩) (hs.imp (fun h => by omega)) hm
theorem sorted_of_perm {ss ts : List Int} (hs : ss.Pairwise (· < ·)) (hp : ts.Perm ss) : ts.mergeSort (fun x y => decide (x ≤ y)) = ss := by
  rw [mergeSort_of_perm_i hp]
  exact List.mergeSort_of_pairwise (hs.imp (fun h => by simp; omega))
theorem pend_mem {P : DataW Unit} {S : List Sec} (h : PendView P S) (x : Int) : x ∈ pendZ S 0 ↔ has P (kI x) = true := by
  rw [pend_has h, pendZ_mem]
  unfold pendAt
  constructor
  · rintro ⟨i, hi, rfl, hd⟩
    rw [if_pos]
    · rfl
    · rw [Nat.zero_add, Int.toNat_natCast, atS_get hi]
      exact ⟨by omega, hi, hd⟩
  · intro hh
    split at hh
    · rename_i hc
      obtain ⟨h1, h2, h3⟩ := hc
      exact ⟨x.toNat, h2, by omega, by rw [atS_get h2] at h3; exact h3⟩
    · cases hh
theorem worn_mem {W : DataW Unit} {S : List Sec} (h : WornView W S) (x : Int) : x ∈ wornZ S 0 ↔ has W (kI x) = true := by
  rw [worn_has h, wornZ_mem]
  unfold wornAt
  constructor
  · rintro ⟨i, hi, rfl, hd⟩
    rw [Nat.zero_add, Int.toNat_natCast, atS_get hi]
    simp [hi, hd]
  · intro hh
    simp only [Bool.and_eq_true, decide_eq_true_eq] at hh
    obtain ⟨h1, h2, h3⟩ := hh
    exact ⟨x.toNat, h2, by omega, by rw [atS_get h2] at h3; exact h3⟩
theorem intKeys_size {w : World} {R : Value → Option (DataW Unit × List MemPlace)} {b n : Nat} {M : DataW Unit} (h : w.ownsMap Tryz.prog 3 R b n M) : (intKeys M).length = size M := by
  obtain ⟨es, rfl⟩ := h.isMap
  simp [intKeys, size]
theorem pend_size {w : World} {b n : Nat} {P : DataW Unit} {S : List Sec} (h : pendMap w b n P) (hv : PendView P S) : size P ≤ S.length := by
  have := (keys_perm_of h (pendZ_sorted S 0) (pend_mem hv)).length_eq
  rw [intKeys_size h] at this
  rw [← this]
  exact pendZ_le S 0
theorem worn_size {w : World} {b n : Nat} {W : DataW Unit} {S : List Sec} (h : wornMap w b n W) (hv : WornView W S) : size W ≤ S.length := by
  have := (keys_perm_of h (wornZ_sorted S 0) (worn_mem hv)).length_eq
  rw [intKeys_size h] at this
  rw [← this]
  exact wornZ_le S 0
/-! ### the views behind an operation -/
theorem atS_set {S : List Sec} {k j : Nat} {x : Sec} (hk : k < S.length) : atS (S.set k x) j = if j = k then x else atS S j := by
  unfold atS
  rw [List.getD_eq_getElem?_getD, List.getD_eq_getElem?_getD, List.getElem?_set]
  by_cases h : k = j
  · subst h; rw [if_pos rfl, if_pos rfl, if_pos hk]; rfl
  · rw [if_neg h, if_neg (fun e => h e.symm)]
theorem pendAt_set {S : List Sec} {k : Nat} {x : Sec} (hk : k < S.length) (i : Int) : pendAt (S.set k x) i = if i = (k : Int) then (if x.dirty = true then some x.next else none) else pendAt S i := by
  unfold pendAt
  rw [List.length_set, atS_set hk]
  by_cases h : i = (k : Int)
  · subst h
    rw [if_pos rfl, Int.toNat_natCast, if_pos rfl]
    by_cases hd : x.dirty = true
    · rw [if_pos ⟨by omega, hk, hd⟩, if_pos hd]
    · rw [if_neg (fun hh => hd hh.2.2), if_neg hd]
  · rw [if_neg h]
    by_cases h0 : 0 ≤ i
    · have : ¬ i.toNat = k := by omega
      rw [if_neg this]
    · rw [if_neg (fun hh => h0 hh.1), if_neg (fun hh => h0 hh.1)]
theorem wornAt_set {S : List Sec} {k : Nat} {x : Sec} (hk : k < S.length) (i : Int) : wornAt (S.set k x) i = if i = (k : Int) then x.worn else wornAt S i := by
  unfold wornAt
  rw [List.length_set, atS_set hk]
  by_cases h : i = (k : Int)
  · subst h
    rw [if_pos rfl, Int.toNat_natCast, if_pos rfl]
    simp [hk]
  · rw [if_neg h]
    by_cases h0 : 0 ≤ i
    · have : ¬ i.toNat = k := by omega
      rw [if_neg this]
    · simp [h0]
theorem kI_ne {i j : Int} (h : i ≠ j) : kI i ≠ kI j := fun e => h (by injection e)
theorem PendView.put {P : DataW Unit} {S : List Sec} (h : PendView P S) (hm : IsMap P) {k : Nat} {x : Sec} (hk : k < S.length) (hd : x.dirty = true) : PendView (P.put (kI (k : Int)) (.lit (.string x.next.data.toList))) (S.set k x) := by
  intro i z
  rw [pendAt_set hk]
  by_cases hi : i = (k : Int)
  · subst hi; rw [atKey_put_same hm (i64_key _), if_pos rfl, if_pos hd]; rfl
  · rw [atKey_put_other (kI_ne hi), if_neg hi, h i z]
theorem PendView.del {P : DataW Unit} {S : List Sec} (h : PendView P S) {k : Nat} {x : Sec} (hk : k < S.length) (hd : x.dirty = false) : PendView (P.del (kI (k : Int))) (S.set k x) := by
  intro i z
  rw [pendAt_set hk]
  by_cases hi : i = (k : Int)
  · subst hi; rw [atKey_del_same, if_pos rfl, hd]; rfl
  · rw [atKey_del_other (kI_ne hi), if_neg hi, h i z]
theorem PendView.same {P : DataW Unit} {S : List Sec} (h : PendView P S) {k : Nat} {x : Sec} (hk : k < S.length) (hd : x.dirty = (atS S k).dirty) (hn : x.next = (atS S k).next) : PendView P (S.set k x) := by
  intro i z
  rw [pendAt_set hk, h i z]
  by_cases hi : i = (k : Int)
  · subst hi
    rw [if_pos rfl, hd, hn]
    unfold pendAt
    rw [Int.toNat_natCast]
    by_cases hh : (atS S k).dirty = true
    · rw [if_pos ⟨by omega, hk, hh⟩, if_pos hh]
    · rw [if_neg (fun q => hh q.2.2), if_neg hh]
  · rw [if_neg hi]
theorem WornView.put {W : DataW Unit} {S : List Sec} (h : WornView W S) (hm : IsMap W) {k : Nat} {x : Sec} (hk : k < S.length) (hd : x.worn = true) : WornView (W.put (kI (k : Int)) (.lit (.bool true))) (S.set k x) := by
  intro i z
  rw [wornAt_set hk]
  by_cases hi : i = (k : Int)
  · subst hi; rw [atKey_put_same hm (i64_key _), if_pos rfl, hd]; rfl
  · rw [atKey_put_other (kI_ne hi), if_neg hi, h i z]
theorem WornView.same {W : DataW Unit} {S : List Sec} (h : WornView W S) {k : Nat} {x : Sec} (hk : k < S.length) (hd : x.worn = (atS S k).worn) : WornView W (S.set k x) := by
  intro i z
  rw [wornAt_set hk, h i z]
  by_cases hi : i = (k : Int)
  · subst hi
    rw [if_pos rfl, hd]
    unfold wornAt
    simp [hk]
  · rw [if_neg hi]
/-! ### look-ups -/
set_option maxRecDepth 100000 in
theorem zero_block (w : World) : (zeroValue 86).run Tryz.prog w = .ok (.agg (cellsB zeros).toArray) w := by kernel_rfl
theorem zero_bool (w : World) : (zeroValue 4).run Tryz.prog w = .ok (.bool false) w := by kernel_rfl
/-- what a look-up of a sector gives: what is pending, or zeros -/
def pendOr (S : List Sec) (i : Int) : ByteArray := (pendAt S i).getD zeros
theorem pendOr_size {S : List Sec} (h : SOk S) (i : Int) : (pendOr S i).size = 64 := by
  unfold pendOr pendAt
  split
  · rename_i hc
    exact (h.at hc.2.1).2 hc.2.2
  · exact zeros_size
theorem look_pend {w : World} {b n : Nat} {P : DataW Unit} {S : List Sec} (h : pendMap w b n P) (hv : PendView P S) {i : Int} (hi : i64ok i) :
    (Instr.lookup 75 (.map (some b)) (.int .i64 i) true).run Tryz.prog w = .ok (.tuple #[.agg (cellsB (pendOr S i)).toArray, .bool (pendAt S i).isSome]) w := by
  obtain ⟨v, ps, hrun, hR⟩ := h.look_ok keyedInt Tryz.underlying75 (zero_block w) (blockElem_mk zeros_size) (keyI hi)
  rw [hrun, pend_has hv]
  have e : P.atKey (kI i) (.lit (.string zeros.data.toList)) = .lit (.string (pendOr S i).data.toList) := by
    rw [hv i]; unfold pendOr pendLit
    cases pendAt S i <;> rfl
  rw [e] at hR
  rw [(blockElem_inv hR).1]
theorem look_pend0 {w : World} {b n : Nat} {P : DataW Unit} {S : List Sec} (h : pendMap w b n P) (hv : PendView P S) {i : Int} (hi : i64ok i) :
    (Instr.lookup 75 (.map (some b)) (.int .i64 i) false).run Tryz.prog w = .ok (.agg (cellsB (pendOr S i)).toArray) w := by
  obtain ⟨v, ps, hrun, hR⟩ := h.lookup keyedInt Tryz.underlying75 (zero_block w) (blockElem_mk zeros_size) (keyI hi)
  rw [hrun]
  have e : P.atKey (kI i) (.lit (.string zeros.data.toList)) = .lit (.string (pendOr S i).data.toList) := by
    rw [hv i]; unfold pendOr pendLit
    cases pendAt S i <;> rfl
  rw [e] at hR
  rw [(blockElem_inv hR).1]
theorem plainElem_bool_inv {P : Program} {e : TypeId} (he : P.underlying e = some .bool) {v : Value} {z : DataW Unit × List MemPlace} (h : plainElem P e v = some z) : ∃ x, v = .bool x ∧ z = (.lit (.bool x), []) := by
  unfold plainElem at h
  rw [he] at h
  cases v <;> simp at h
  exact ⟨_, rfl, h.symm⟩
theorem look_worn0 {w : World} {b n : Nat} {W : DataW Unit} {S : List Sec} (h : wornMap w b n W) (hv : WornView W S) {i : Int} (hi : i64ok i) :
    (Instr.lookup 45 (.map (some b)) (.int .i64 i) false).run Tryz.prog w = .ok (.bool (wornAt S i)) w := by
  obtain ⟨v, ps, hrun, hR⟩ := h.lookup keyedInt Tryz.underlying45 (zero_bool w) (plainElem_bool Tryz.underlying4 false) (keyI hi)
  rw [hrun]
  have e : W.atKey (kI i) (.lit (.bool false)) = .lit (.bool (wornAt S i)) := by
    rw [hv i]; unfold wornLit
    cases wornAt S i <;> rfl
  rw [e] at hR
  obtain ⟨x, rfl, hx⟩ := plainElem_bool_inv Tryz.underlying4 hR
  simp only [Prod.mk.injEq, DataW.lit.injEq, Lit.bool.injEq] at hx
  simp only [hx.1]
end Go.Proofs.YtipbkdlekanlmaaGreatDoor
/- Contracts of the program's disk: Len, Up, check, step, Trip. -/
namespace Go.Proofs.YtipbkdlekanlmaaGreatDoor
open Go.RowKit Go.Lab Go.Disk Go.Maps
section
variable {lo hi b g mb wb c : Nat} {l : Int} {P W : DataW Unit} {D : Dk} {w : World}
theorem DiskIn.c0 (h : DiskIn w lo hi b g mb wb c l P W D) : w.cell? ⟨b, 0, none⟩ = some (.slice (some ⟨g, 0, none⟩) D.s.length c) := h.top.cell rfl
theorem DiskIn.c1 (h : DiskIn w lo hi b g mb wb c l P W D) : w.cell? ⟨b, 1, none⟩ = some (.map (some mb)) := h.top.cell rfl
theorem DiskIn.c2 (h : DiskIn w lo hi b g mb wb c l P W D) : w.cell? ⟨b, 2, none⟩ = some (.map (some wb)) := h.top.cell rfl
theorem DiskIn.c3 (h : DiskIn w lo hi b g mb wb c l P W D) : w.cell? ⟨b, 3, none⟩ = some (.bool D.off) := h.top.cell rfl
theorem DiskIn.c4 (h : DiskIn w lo hi b g mb wb c l P W D) : w.cell? ⟨b, 4, none⟩ = some (.int .i64 l) := h.top.cell rfl
theorem DiskIn.fr (h : DiskIn w lo hi b g mb wb c l P W D) (j : Nat) : w.frozen? ⟨b, j, none⟩ = false := h.top.free j
theorem DiskIn.other (h : DiskIn w lo hi b g mb wb c l P W D) {w' : World} {l' : Int} {D' : Dk} (hs : D'.s = D.s) (hT : Turn b (b + 1) w w')
    (htop : RowAt w' b 77 [.slice (some ⟨g, 0, none⟩) D.s.length c, .map (some mb), .map (some wb), .bool D'.off, .int .i64 l']) (hl : Lft l' D'.left) (hok : D'.Ok) : DiskIn w' lo hi b g mb wb c l' P W D' := by
  have hgb := row_ne h.row h.top (by decide)
  have hmb := ownsMap_ne h.pend h.top
  have hwb := ownsMap_ne h.worn h.top
  have hz := h.hi
  have hg := h.hg
  have hm := h.hm
  have hw := h.hw
  refine ⟨h.hb, h.hg, h.hm, h.hw, Nat.le_trans h.hi hT.size, h.ne, by rw [hs]; exact h.cap, by rw [hs]; exact htop, by rw [hs]; exact h.row.of_turn hT (by omega), ownsMap_block h.pend (hT.block _ (by omega) (by omega)), ownsMap_block h.worn (hT.block _ (by omega) (by omega)), by rw [hs]; exact h.pv, by rw [hs]; exact h.wv, hl, hok⟩
theorem DiskIn.setLeft (h : DiskIn w lo hi b g mb wb c l P W D) {l' left' : Int} (hl : Lft l' left') (hr : -1 ≤ left' ∧ left' ≤ 9223372036854775807) : DiskIn (w.setCell ⟨b, 4, none⟩ (.int .i64 l')) lo hi b g mb wb c l' P W { D with left := left' } :=
  h.other rfl (Turn.setCell (a := ⟨b, 4, none⟩) (Nat.le_refl b) (Nat.lt_succ_self b) _) (h.top.setCell (o := 4) (by simp) _) hl ⟨h.ok.1, hr⟩
theorem DiskIn.setOff (h : DiskIn w lo hi b g mb wb c l P W D) (o : Bool) : DiskIn (w.setCell ⟨b, 3, none⟩ (.bool o)) lo hi b g mb wb c l P W { D with off := o } :=
  h.other rfl (Turn.setCell (a := ⟨b, 3, none⟩) (Nat.le_refl b) (Nat.lt_succ_self b) _) (h.top.setCell (o := 3) (by simp) _) h.lft h.ok
theorem DiskIn.turn (h : DiskIn w lo hi b g mb wb c l P W D) (j : Nat) (v : Value) : Turn lo hi w (w.setCell ⟨b, j, none⟩ v) := Turn.setCell h.hb.1 h.hb.2 v
end
set_option maxHeartbeats 400000 in
theorem len_any (p : Value) (D : Dk) (w : World) (lo hi : Nat) (h : DiskAt w lo hi p D) :
    Calls Tryz.prog 47 #[p] w fun e w' => e = .returned (.int .i64 D.s.length) ∧ w = w' := by
  obtain ⟨b, g, mb, wb, c, l, P, W, rfl, h⟩ := h
  have c0 := h.c0
  clear h
  go_enter Tryz.func47, Tryz.ntmps47
  go_wp2
  go_ret
  exact ⟨rfl, rfl⟩
theorem checkZ_off {D : Dk} (i : Int) (h : D.off = true) : checkZ D i = 25 := if_pos h
theorem checkZ_out {D : Dk} {i : Int} (h : D.off = false) (hi : D.isIn i = false) : checkZ D i = 1 := by unfold checkZ; rw [if_neg (by rw [h]; simp), if_pos hi]
theorem checkZ_in {D : Dk} {i : Int} (h : D.off = false) (hi : D.isIn i = true) : checkZ D i = 0 := by unfold checkZ; rw [if_neg (by rw [h]; simp), if_neg (by rw [hi]; simp)]
set_option maxHeartbeats 400000 in
theorem check_any (p : Value) (D : Dk) (i : Int) (w : World) (lo hi : Nat) (h : DiskAt w lo hi p D) :
    Calls Tryz.prog 43 #[p, .int .i64 i] w fun e w' => e = .returned (.int .i64 (checkZ D i)) ∧ w = w' := by
  obtain ⟨b, g, mb, wb, c, l, P, W, rfl, h⟩ := h
  have c0 := h.c0
  have c3 := h.c3
  have hok := h.ok.1.2.1
  clear h
  cases hoff : D.off with
  | true =>
    rw [hoff] at c3
    have HZ := hidep (checkZ_off i hoff)
    clear hoff
    go_enter Tryz.func43, Tryz.ntmps43
    go_wp2
    go_ret
    exact ⟨ret_val (congrArg _ HZ.out.symm), rfl⟩
  | false =>
    rw [hoff] at c3
    cases hin : D.isIn i with
    | true =>
      have HZ := hidep (checkZ_in hoff hin)
      have := isIn_lt hin
      have h1 : 0 ≤ i := this.1
      have h2 : i < (D.s.length : Int) := by omega
      clear hoff hin this
      generalize D.s.length = n at *
      go_enter Tryz.func43, Tryz.ntmps43
      go_wp2
      go_ret
      exact ⟨ret_val (congrArg _ HZ.out.symm), rfl⟩
    | false =>
      have HZ := hidep (checkZ_out hoff hin)
      have := isIn_out hin
      clear hoff hin
      generalize D.s.length = n at *
      rcases this with h1 | ⟨h1, h2⟩
      all_goals
        go_enter Tryz.func43, Tryz.ntmps43
        go_wp2
        go_ret
        exact ⟨ret_val (congrArg _ HZ.out.symm), rfl⟩
set_option maxHeartbeats 400000 in
theorem trip_any (p : Value) (D : Dk) (n : Int) (w : World) (lo hi : Nat) (h : DiskAt w lo hi p D) (hn : -9223372036854775808 ≤ n ∧ n ≤ 9223372036854775807) :
    Calls Tryz.prog 25 #[p, .int .i64 n] w fun e w' => e = .returned (.tuple #[]) ∧ DiskAt w' lo hi p (tripD D n) ∧ Turn lo hi w w' := by
  obtain ⟨b, g, mb, wb, c, l, P, W, rfl, h⟩ := h
  have c4 := h.c4
  have f4 := h.fr 4
  have H := hidep h
  clear h
  go_enter Tryz.func25, Tryz.ntmps25
  go_wp2
  go_end0
  have HH := H.out.setLeft (l' := n) (left' := max (-1) n) ⟨by split <;> omega, hn⟩ (by omega)
  exact ⟨rfl, ⟨b, g, mb, wb, c, n, P, W, rfl, HH⟩, H.out.turn 4 _⟩
theorem stepE_0 {D : Dk} (h : D.left = 0) : stepE D = 25 := if_pos h
theorem stepE_1 {D : Dk} (h : D.left ≠ 0) : stepE D = 0 := if_neg h
theorem stepD_0 {D : Dk} (h : D.left = 0) : stepD D = { D with off := true } := if_pos h
theorem stepD_1 {D : Dk} (h : 0 < D.left) : stepD D = { D with left := D.left - 1 } := by unfold stepD; rw [if_neg (by omega), if_pos h]
theorem stepD_2 {D : Dk} (h : D.left < 0) : stepD D = D := by unfold stepD; rw [if_neg (by omega), if_neg (by omega)]
set_option maxHeartbeats 400000 in
theorem step_any (p : Value) (D : Dk) (w : World) (lo hi : Nat) (h : DiskAt w lo hi p D) :
    Calls Tryz.prog 44 #[p] w fun e w' => e = .returned (.int .i64 (stepE D)) ∧ DiskAt w' lo hi p (stepD D) ∧ Turn lo hi w w' := by
  obtain ⟨b, g, mb, wb, c, l, P, W, rfl, h⟩ := h
  have c4 := h.c4
  have f4 := h.fr 4
  have f3 := h.fr 3
  have c3 := h.c3
  have hl := h.lft
  have hlo := h.ok.2
  have H := hidep h
  clear h
  obtain ⟨hl1, hl2, hl3⟩ := hl
  have hcase : (l = 0 ∧ D.left = 0) ∨ (0 < l ∧ D.left = l) ∨ (l < 0 ∧ D.left = -1) := by
    split at hl1 <;> omega
  clear hl1
  rcases hcase with ⟨rfl, h2⟩ | ⟨h1, h2⟩ | ⟨h1, h2⟩
  · have HE := hidep (stepE_0 h2)
    have HD := hidep (stepD_0 h2)
    clear h2 hlo
    go_enter Tryz.func44, Tryz.ntmps44
    go_wp2
    go_ret
    exact ⟨ret_val (congrArg _ HE.out.symm), by rw [HD.out]; exact ⟨b, g, mb, wb, c, 0, P, W, rfl, H.out.setOff true⟩, H.out.turn 3 _⟩
  · have HE := hidep (stepE_1 (D := D) (by omega))
    have HD := hidep (stepD_1 (D := D) (by omega))
    have HL := hidep h2
    clear h2 hlo
    go_enter Tryz.func44, Tryz.ntmps44
    go_wp2
    go_ret
    have HH := H.out.setLeft (l' := l - 1) (left' := D.left - 1) ⟨by rw [if_neg (by omega), HL.out], by omega⟩ (by have := HL.out; omega)
    exact ⟨ret_val (congrArg _ HE.out.symm), by rw [HD.out]; exact ⟨b, g, mb, wb, c, _, P, W, rfl, HH⟩, H.out.turn 4 _⟩
  · have HE := hidep (stepE_1 (D := D) (by omega))
    have HD := hidep (stepD_2 (D := D) (by omega))
    clear h2 hlo
    go_enter Tryz.func44, Tryz.ntmps44
    go_wp2
    go_ret
    exact ⟨ret_val (congrArg _ HE.out.symm), by rw [HD.out]; exact ⟨b, g, mb, wb, c, _, P, W, rfl, H.out⟩, Turn.refl _ _ _⟩
end Go.Proofs.YtipbkdlekanlmaaGreatDoor
