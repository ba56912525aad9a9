/- The two disks in memory: the word for each, and the maps of the program's disk as views of the sectors. -/
import Derived.Test.YtmgogmjkoealoaaDkMem
namespace Go.Proofs.Ytmgogmjkoealoaa
open Go.RowKit Go.Lab Go.Disk Go.Maps
abbrev kI (i : Int) : Lit := .int .i64 i
def i64ok (i : Int) : Prop := (Lit.int .i64 i).wf = true
theorem i64_key (i : Int) : WideAt.IsKeyLit (kI i) := trivial
theorem i64ok_mk {i : Int} (h : -9223372036854775808 ≤ i ∧ i ≤ 9223372036854775807) : i64ok i := by
  unfold i64ok
  simp [Lit.wf, IntKind.min, IntKind.max, IntKind.signed, IntKind.bits]
  omega
theorem keyedInt : Keyed Try.prog 3 := int_keyed Try.underlying3
theorem keyI {i : Int} (h : i64ok i) : keyOf Try.prog 3 (.int .i64 i) = some (kI i) := keyOf_int_mk Try.underlying3 h
/-- What is pending for the sector i. -/
def pendAt (S : List Sec) (i : Int) : Option ByteArray := if 0 ≤ i ∧ i.toNat < S.length ∧ (atS S i.toNat).dirty = true then some (atS S i.toNat).next else none
def wornAt (S : List Sec) (i : Int) : Bool := decide (0 ≤ i) && (decide (i.toNat < S.length) && (atS S i.toNat).worn)
/-- What the map of what is pending reads at i. -/
def pendLit (o : Option ByteArray) (z : DataW Unit) : DataW Unit := match o with | some s => .lit (.string s.data.toList) | none => z
def wornLit (b : Bool) (z : DataW Unit) : DataW Unit := if b = true then .lit (.bool true) else z
def PendView (P : DataW Unit) (S : List Sec) : Prop := ∀ (i : Int) (z : DataW Unit), P.atKey (kI i) z = pendLit (pendAt S i) z
def WornView (W : DataW Unit) (S : List Sec) : Prop := ∀ (i : Int) (z : DataW Unit), W.atKey (kI i) z = wornLit (wornAt S i) z
def Lft (l left : Int) : Prop := left = (if l < 0 then -1 else l) ∧ -9223372036854775808 ≤ l ∧ l ≤ 9223372036854775807
def blocksC (S : List Sec) : List Value := S.flatMap fun x => cellsB x.text
def secC (x : Sec) : List Value := [.string x.text, .string x.next, .bool x.dirty, .bool x.worn]
def secsC (S : List Sec) : List Value := S.flatMap secC
abbrev pendMap (w : World) (b k : Nat) (P : DataW Unit) : Prop := w.ownsMap Try.prog 3 blockElem b k P
abbrev wornMap (w : World) (b k : Nat) (W : DataW Unit) : Prop := w.ownsMap Try.prog 3 (plainElem Try.prog 4) b k W
/-- The program's disk. -/
structure DiskIn (w : World) (lo hi b g mb wb c : Nat) (l : Int) (P W : DataW Unit) (D : Dk) : Prop where
  hb : lo ≤ b ∧ b < hi
  hg : lo ≤ g ∧ g < hi
  hm : lo ≤ mb ∧ mb < hi
  hw : lo ≤ wb ∧ wb < hi
  hi : hi ≤ w.heap.size
  ne : mb ≠ wb
  cap : D.s.length ≤ c ∧ c ≤ maxLen
  top : RowAt w b 71 [.slice (some ⟨g, 0, none⟩) D.s.length c, .map (some mb), .map (some wb), .bool D.off, .int .i64 l]
  row : RowAt w g 74 (blocksC D.s)
  pend : pendMap w mb (size P) P
  worn : wornMap w wb (size W) W
  pv : PendView P D.s
  wv : WornView W D.s
  lft : Lft l D.left
  ok : D.Ok
def DiskAt (w : World) (lo hi : Nat) (p : Value) (D : Dk) : Prop := ∃ b g mb wb c l P W, p = .pointer (some ⟨b, 0, none⟩) ∧ DiskIn w lo hi b g mb wb c l P W D
/-- The reference's disk. -/
structure RDiskIn (w : World) (lo hi b g c : Nat) (D : Dk) : Prop where
  hb : lo ≤ b ∧ b < hi
  hg : lo ≤ g ∧ g < hi
  hi : hi ≤ w.heap.size
  cap : D.s.length ≤ c ∧ c ≤ maxLen
  top : RowAt w b 57 [.slice (some ⟨g, 0, none⟩) D.s.length c, .bool D.off, .int .i64 D.left]
  row : RowAt w g 54 (secsC D.s)
  ok : D.Ok
  clean : ∀ x ∈ D.s, x.dirty = false → x.next = ByteArray.empty
def RDiskAt (w : World) (lo hi : Nat) (p : Value) (D : Dk) : Prop := ∃ b g c, p = .pointer (some ⟨b, 0, none⟩) ∧ RDiskIn w lo hi b g c D
section
variable {w w' : World} {lo hi : Nat} {p : Value} {D : Dk}
theorem ownsMap_block {R : Value → Option (DataW Unit × List MemPlace)} {b n : Nat} {M : DataW Unit} (h : w.ownsMap Try.prog 3 R b n M) (hb : w'.heap[b]? = w.heap[b]?) : w'.ownsMap Try.prog 3 R b n M := by
  obtain ⟨es, clock, h1, r⟩ := h
  exact ⟨es, clock, hb.trans h1, r⟩
theorem ownsMap_size {R : Value → Option (DataW Unit × List MemPlace)} {b n : Nat} {M : DataW Unit} (h : w.ownsMap Try.prog 3 R b n M) : w.ownsMap Try.prog 3 R b (size M) M := by
  obtain ⟨es, clock, h1, F, h2, rfl⟩ := h
  exact ⟨es, clock, h1, F, by simp [size, length_sorted], rfl⟩
theorem ownsMap_ne {R : Value → Option (DataW Unit × List MemPlace)} {b n g : Nat} {M : DataW Unit} {t : TypeId} {cs : List Value} (h : w.ownsMap Try.prog 3 R b n M) (hr : RowAt w g t cs) : b ≠ g := by
  rintro rfl
  obtain ⟨es, clock, h1, _⟩ := h
  obtain ⟨cur, h2, _⟩ := hr
  rw [h1] at h2
  cases h2
theorem row_ne {g g' : Nat} {t t' : TypeId} {cs cs' : List Value} (h : RowAt w g t cs) (h' : RowAt w g' t' cs') (hne : t ≠ t') : g ≠ g' := by
  rintro rfl
  obtain ⟨cur, h1, _⟩ := h
  obtain ⟨cur', h2, _⟩ := h'
  rw [h1] at h2
  injection h2 with h2
  injection h2 with _ h3 _
  exact hne h3
theorem DiskIn.keep {b g mb wb c : Nat} {l : Int} {P W : DataW Unit} (h : DiskIn w lo hi b g mb wb c l P W D) {lo' hi' : Nat} (hT : Turn lo' hi' w w') (hd : hi ≤ lo' ∨ hi' ≤ lo) : DiskIn w' lo hi b g mb wb c l P W D := by
  have hz := h.hi
  have e : ∀ k, lo ≤ k ∧ k < hi → w'.heap[k]? = w.heap[k]? := fun k hk => hT.block k (by omega) (by omega)
  exact ⟨h.hb, h.hg, h.hm, h.hw, Nat.le_trans hz hT.size, h.ne, h.cap, h.top.of_block (e _ h.hb), h.row.of_block (e _ h.hg), ownsMap_block h.pend (e _ h.hm), ownsMap_block h.worn (e _ h.hw), h.pv, h.wv, h.lft, h.ok⟩
theorem DiskAt.keep (h : DiskAt w lo hi p D) {lo' hi' : Nat} (hT : Turn lo' hi' w w') (hd : hi ≤ lo' ∨ hi' ≤ lo) : DiskAt w' lo hi p D := by
  obtain ⟨b, g, mb, wb, c, l, P, W, hp, h⟩ := h
  exact ⟨b, g, mb, wb, c, l, P, W, hp, h.keep hT hd⟩
theorem DiskAt.below (h : DiskAt w lo hi p D) (hT : Below w.heap.size w w') : DiskAt w' lo hi p D := by
  obtain ⟨b, g, mb, wb, c, l, P, W, hp, h⟩ := h
  refine ⟨b, g, mb, wb, c, l, P, W, hp, ?_⟩
  exact h.keep (lo' := hi) (hi' := hi) (Turn.of_below hT) (.inl (Nat.le_refl _))
theorem RDiskIn.keep {b g c : Nat} (h : RDiskIn w lo hi b g c D) {lo' hi' : Nat} (hT : Turn lo' hi' w w') (hd : hi ≤ lo' ∨ hi' ≤ lo) : RDiskIn w' lo hi b g c D := by
  have hz := h.hi
  have e : ∀ k, lo ≤ k ∧ k < hi → w'.heap[k]? = w.heap[k]? := fun k hk => hT.block k (by omega) (by omega)
  exact ⟨h.hb, h.hg, Nat.le_trans hz hT.size, h.cap, h.top.of_block (e _ h.hb), h.row.of_block (e _ h.hg), h.ok, h.clean⟩
theorem RDiskAt.keep (h : RDiskAt w lo hi p D) {lo' hi' : Nat} (hT : Turn lo' hi' w w') (hd : hi ≤ lo' ∨ hi' ≤ lo) : RDiskAt w' lo hi p D := by
  obtain ⟨b, g, c, hp, h⟩ := h
  exact ⟨b, g, c, hp, h.keep hT hd⟩
theorem RDiskAt.below (h : RDiskAt w lo hi p D) (hT : Below w.heap.size w w') : RDiskAt w' lo hi p D := by
  obtain ⟨b, g, c, hp, h⟩ := h
  exact ⟨b, g, c, hp, h.keep (lo' := hi) (hi' := hi) (Turn.of_below hT) (.inl (Nat.le_refl _))⟩
theorem DiskAt.ok (h : DiskAt w lo hi p D) : D.Ok := by
  obtain ⟨b, g, mb, wb, c, l, P, W, hp, h⟩ := h
  exact h.ok
theorem DiskAt.rng (h : DiskAt w lo hi p D) : lo < hi ∧ hi ≤ w.heap.size := by
  obtain ⟨b, g, mb, wb, c, l, P, W, hp, h⟩ := h
  have := h.hb
  exact ⟨by omega, h.hi⟩
theorem RDiskAt.rng (h : RDiskAt w lo hi p D) : lo < hi ∧ hi ≤ w.heap.size := by
  obtain ⟨b, g, c, hp, h⟩ := h
  have := h.hb
  exact ⟨by omega, h.hi⟩
end
/-! ### the keys of the maps -/
theorem pend_has {P : DataW Unit} {S : List Sec} (h : PendView P S) (i : Int) : has P (kI i) = (pendAt S i).isSome := by
  cases hp : pendAt S i with
  | none => exact has_false_of_atKey (fun z => by rw [h i z, hp]; rfl)
  | some s => exact has_true_of_atKey (fun z => by rw [h i z, hp]; rfl)
theorem worn_has {W : DataW Unit} {S : List Sec} (h : WornView W S) (i : Int) : has W (kI i) = wornAt S i := by
  cases hp : wornAt S i with
  | false => exact has_false_of_atKey (fun z => by rw [h i z, hp]; rfl)
  | true => exact has_true_of_atKey (fun z => by rw [h i z, hp]; rfl)
theorem keys_perm_of {w : World} {R : Value → Option (DataW Unit × List MemPlace)} {b n : Nat} {M : DataW Unit} (h : w.ownsMap Try.prog 3 R b n M) {ss : List Int} (hs : ss.Pairwise (· < ·)) (hm : ∀ x, x ∈ ss ↔ has M (kI x) = true) : ss.Perm (intKeys M) := by
  obtain ⟨es, hD, hpw, _⟩ := h.entries keyedInt
  obtain ⟨es', hD', hko⟩ := h.keysOf
  obtain rfl : es = es' := by rw [hD] at hD'; simpa using hD'
  subst hD
  exact perm_intKeys hpw (fun p hp => by obtain ⟨v, hv⟩ := hko p hp; obtain ⟨x, _, hx, _⟩ := Maps.keyOf_i64 Try.underlying3 hv; exact ⟨x, hx⟩) (hs.imp (fun h => by omega)) hm
theorem sorted_of_perm {ss ts : List Int} (hs : ss.Pairwise (· < ·)) (hp : ts.Perm ss) : ts.mergeSort (fun x y => decide (x ≤ y)) = ss := by
  rw [mergeSort_of_perm_i hp]
  exact List.mergeSort_of_pairwise (hs.imp (fun h => by simp; omega))
theorem pend_mem {P : DataW Unit} {S : List Sec} (h : PendView P S) (x : Int) : x ∈ pendZ S 0 ↔ has P (kI x) = true := by
  rw [pend_has h, pendZ_mem]
  unfold pendAt
  constructor
  · rintro ⟨i, hi, rfl, hd⟩
    rw [if_pos]
    · rfl
    · rw [Nat.zero_add, Int.toNat_natCast, atS_get hi]
      exact ⟨by omega, hi, hd⟩
  · intro hh
    split at hh
    · rename_i hc
      obtain ⟨h1, h2, h3⟩ := hc
      exact ⟨x.toNat, h2, by omega, by rw [atS_get h2] at h3; exact h3⟩
    · cases hh
theorem worn_mem {W : DataW Unit} {S : List Sec} (h : WornView W S) (x : Int) : x ∈ wornZ S 0 ↔ has W (kI x) = true := by
  rw [worn_has h, wornZ_mem]
  unfold wornAt
  constructor
  · rintro ⟨i, hi, rfl, hd⟩
    rw [Nat.zero_add, Int.toNat_natCast, atS_get hi]
    simp [hi, hd]
  · intro hh
    simp only [Bool.and_eq_true, decide_eq_true_eq] at hh
    obtain ⟨h1, h2, h3⟩ := hh
    exact ⟨x.toNat, h2, by omega, by rw [atS_get h2] at h3; exact h3⟩
theorem intKeys_size {w : World} {R : Value → Option (DataW Unit × List MemPlace)} {b n : Nat} {M : DataW Unit} (h : w.ownsMap Try.prog 3 R b n M) : (intKeys M).length = size M := by
  obtain ⟨es, rfl⟩ := h.isMap
  simp [intKeys, size]
theorem pend_size {w : World} {b n : Nat} {P : DataW Unit} {S : List Sec} (h : pendMap w b n P) (hv : PendView P S) : size P ≤ S.length := by
  have := (keys_perm_of h (pendZ_sorted S 0) (pend_mem hv)).length_eq
  rw [intKeys_size h] at this
  rw [← this]
  exact pendZ_le S 0
theorem worn_size {w : World} {b n : Nat} {W : DataW Unit} {S : List Sec} (h : wornMap w b n W) (hv : WornView W S) : size W ≤ S.length := by
  have := (keys_perm_of h (wornZ_sorted S 0) (worn_mem hv)).length_eq
  rw [intKeys_size h] at this
  rw [← this]
  exact wornZ_le S 0
/-! ### the views behind an operation -/
theorem atS_set {S : List Sec} {k j : Nat} {x : Sec} (hk : k < S.length) : atS (S.set k x) j = if j = k then x else atS S j := by
  unfold atS
  rw [List.getD_eq_getElem?_getD, List.getD_eq_getElem?_getD, List.getElem?_set]
  by_cases h : k = j
  · subst h; rw [if_pos rfl, if_pos rfl, if_pos hk]; rfl
  · rw [if_neg h, if_neg (fun e => h e.symm)]
theorem pendAt_set {S : List Sec} {k : Nat} {x : Sec} (hk : k < S.length) (i : Int) : pendAt (S.set k x) i = if i = (k : Int) then (if x.dirty = true then some x.next else none) else pendAt S i := by
  unfold pendAt
  rw [List.length_set, atS_set hk]
  by_cases h : i = (k : Int)
  · subst h
    rw [if_pos rfl, Int.toNat_natCast, if_pos rfl]
    by_cases hd : x.dirty = true
    · rw [if_pos ⟨by omega, hk, hd⟩, if_pos hd]
    · rw [if_neg (fun hh => hd hh.2.2), if_neg hd]
  · rw [if_neg h]
    by_cases h0 : 0 ≤ i
    · have : ¬ i.toNat = k := by omega
      rw [if_neg this]
    · rw [if_neg (fun hh => h0 hh.1), if_neg (fun hh => h0 hh.1)]
theorem wornAt_set {S : List Sec} {k : Nat} {x : Sec} (hk : k < S.length) (i : Int) : wornAt (S.set k x) i = if i = (k : Int) then x.worn else wornAt S i := by
  unfold wornAt
  rw [List.length_set, atS_set hk]
  by_cases h : i = (k : Int)
  · subst h
    rw [if_pos rfl, Int.toNat_natCast, if_pos rfl]
    simp [hk]
  · rw [if_neg h]
    by_cases h0 : 0 ≤ i
    · have : ¬ i.toNat = k := by omega
      rw [if_neg this]
    · simp [h0]
theorem kI_ne {i j : Int} (h : i ≠ j) : kI i ≠ kI j := fun e => h (by injection e)
theorem PendView.put {P : DataW Unit} {S : List Sec} (h : PendView P S) (hm : IsMap P) {k : Nat} {x : Sec} (hk : k < S.length) (hd : x.dirty = true) : PendView (P.put (kI (k : Int)) (.lit (.string x.next.data.toList))) (S.set k x) := by
  intro i z
  rw [pendAt_set hk]
  by_cases hi : i = (k : Int)
  · subst hi; rw [atKey_put_same hm (i64_key _), if_pos rfl, if_pos hd]; rfl
  · rw [atKey_put_other (kI_ne hi), if_neg hi, h i z]
theorem PendView.del {P : DataW Unit} {S : List Sec} (h : PendView P S) {k : Nat} {x : Sec} (hk : k < S.length) (hd : x.dirty = false) : PendView (P.del (kI (k : Int))) (S.set k x) := by
  intro i z
  rw [pendAt_set hk]
  by_cases hi : i = (k : Int)
  · subst hi; rw [atKey_del_same, if_pos rfl, hd]; rfl
  · rw [atKey_del_other (kI_ne hi), if_neg hi, h i z]
theorem PendView.same {P : DataW Unit} {S : List Sec} (h : PendView P S) {k : Nat} {x : Sec} (hk : k < S.length) (hd : x.dirty = (atS S k).dirty) (hn : x.next = (atS S k).next) : PendView P (S.set k x) := by
  intro i z
  rw [pendAt_set hk, h i z]
  by_cases hi : i = (k : Int)
  · subst hi
    rw [if_pos rfl, hd, hn]
    unfold pendAt
    rw [Int.toNat_natCast]
    by_cases hh : (atS S k).dirty = true
    · rw [if_pos ⟨by omega, hk, hh⟩, if_pos hh]
    · rw [if_neg (fun q => hh q.2.2), if_neg hh]
  · rw [if_neg hi]
theorem WornView.put {W : DataW Unit} {S : List Sec} (h : WornView W S) (hm : IsMap W) {k : Nat} {x : Sec} (hk : k < S.length) (hd : x.worn = true) : WornView (W.put (kI (k : Int)) (.lit (.bool true))) (S.set k x) := by
  intro i z
  rw [wornAt_set hk]
  by_cases hi : i = (k : Int)
  · subst hi; rw [atKey_put_same hm (i64_key _), if_pos rfl, hd]; rfl
  · rw [atKey_put_other (kI_ne hi), if_neg hi, h i z]
theorem WornView.same {W : DataW Unit} {S : List Sec} (h : WornView W S) {k : Nat} {x : Sec} (hk : k < S.length) (hd : x.worn = (atS S k).worn) : WornView W (S.set k x) := by
  intro i z
  rw [wornAt_set hk, h i z]
  by_cases hi : i = (k : Int)
  · subst hi
    rw [if_pos rfl, hd]
    unfold wornAt
    simp [hk]
  · rw [if_neg hi]
/-! ### look-ups -/
set_option maxRecDepth 100000 in
theorem zero_block (w : World) : (zeroValue 74).run Try.prog w = .ok (.agg (cellsB zeros).toArray) w := by kernel_rfl
theorem zero_bool (w : World) : (zeroValue 4).run Try.prog w = .ok (.bool false) w := by kernel_rfl
/-- what a look-up of a sector gives: what is pending, or zeros -/
def pendOr (S : List Sec) (i : Int) : ByteArray := (pendAt S i).getD zeros
theorem pendOr_size {S : List Sec} (h : SOk S) (i : Int) : (pendOr S i).size = 64 := by
  unfold pendOr pendAt
  split
  · rename_i hc
    exact (h.at hc.2.1).2 hc.2.2
  · exact zeros_size
theorem look_pend {w : World} {b n : Nat} {P : DataW Unit} {S : List Sec} (h : pendMap w b n P) (hv : PendView P S) {i : Int} (hi : i64ok i) :
    (Instr.lookup 68 (.map (some b)) (.int .i64 i) true).run Try.prog w = .ok (.tuple #[.agg (cellsB (pendOr S i)).toArray, .bool (pendAt S i).isSome]) w := by
  obtain ⟨v, ps, hrun, hR⟩ := h.look_ok keyedInt Try.underlying68 (zero_block w) (blockElem_mk zeros_size) (keyI hi)
  rw [hrun, pend_has hv]
  have e : P.atKey (kI i) (.lit (.string zeros.data.toList)) = .lit (.string (pendOr S i).data.toList) := by
    rw [hv i]; unfold pendOr pendLit
    cases pendAt S i <;> rfl
  rw [e] at hR
  rw [(blockElem_inv hR).1]
theorem look_pend0 {w : World} {b n : Nat} {P : DataW Unit} {S : List Sec} (h : pendMap w b n P) (hv : PendView P S) {i : Int} (hi : i64ok i) :
    (Instr.lookup 68 (.map (some b)) (.int .i64 i) false).run Try.prog w = .ok (.agg (cellsB (pendOr S i)).toArray) w := by
  obtain ⟨v, ps, hrun, hR⟩ := h.lookup keyedInt Try.underlying68 (zero_block w) (blockElem_mk zeros_size) (keyI hi)
  rw [hrun]
  have e : P.atKey (kI i) (.lit (.string zeros.data.toList)) = .lit (.string (pendOr S i).data.toList) := by
    rw [hv i]; unfold pendOr pendLit
    cases pendAt S i <;> rfl
  rw [e] at hR
  rw [(blockElem_inv hR).1]
theorem plainElem_bool_inv {P : Program} {e : TypeId} (he : P.underlying e = some .bool) {v : Value} {z : DataW Unit × List MemPlace} (h : plainElem P e v = some z) : ∃ x, v = .bool x ∧ z = (.lit (.bool x), []) := by
  unfold plainElem at h
  rw [he] at h
  cases v <;> simp at h
  exact ⟨_, rfl, h.symm⟩
theorem look_worn0 {w : World} {b n : Nat} {W : DataW Unit} {S : List Sec} (h : wornMap w b n W) (hv : WornView W S) {i : Int} (hi : i64ok i) :
    (Instr.lookup 69 (.map (some b)) (.int .i64 i) false).run Try.prog w = .ok (.bool (wornAt S i)) w := by
  obtain ⟨v, ps, hrun, hR⟩ := h.lookup keyedInt Try.underlying69 (zero_bool w) (plainElem_bool Try.underlying4 false) (keyI hi)
  rw [hrun]
  have e : W.atKey (kI i) (.lit (.bool false)) = .lit (.bool (wornAt S i)) := by
    rw [hv i]; unfold wornLit
    cases wornAt S i <;> rfl
  rw [e] at hR
  obtain ⟨x, rfl, hx⟩ := plainElem_bool_inv Try.underlying4 hR
  simp only [Prod.mk.injEq, DataW.lit.injEq, Lit.bool.injEq] at hx
  simp only [hx.1]
end Go.Proofs.Ytmgogmjkoealoaa
