/- Maps whose keys are a plain type's values and whose elements are held as they are. No program in sight. -/
import Derived.Test.YtcfjepcflanjbaaBf09
import Derived.Maps.OwnSet
import Derived.Maps.OwnOps
import Derived.Maps.Views
import Derived.Test.YtcfjepcflanjbaaBf17
import Derived.WideKeyArr
import Derived.DeepKeys3
namespace Go.Proofs.Ytcfjepcflanjbaa
open Go.RowKit Go.Lab Go.WideMaps Go.Maps
def heldE (v : Value) : Option (DataW Value × List MemPlace) := some (.held v, [])
/-- A type of keys: how they are written, what they read as. -/
structure KeyK (P : Program) (tK tM tE : TypeId) {κ : Type} (enc : κ → Value) (lit : κ → Lit) (ok : κ → Prop) (z : Value) : Prop where
  keyed : Maps.Keyed P tK
  key : ∀ x, ok x → keyOf P tK (enc x) = some (lit x)
  inj : ∀ x y, ok x → ok y → enc x = enc y → x = y
  und : P.underlying tM = some (.map tK tE)
  zero : ∀ w, (zeroValue tE).run P w = .ok z w
theorem KeyK.lit_inj {P : Program} {tK tM tE : TypeId} {κ : Type} {enc : κ → Value} {lit : κ → Lit} {ok : κ → Prop} {z : Value} (K : KeyK P tK tM tE enc lit ok z) {x y : κ} (hx : ok x) (hy : ok y) (h : lit x = lit y) : x = y := by
  have h1 := K.key x hx
  have h2 := K.key y hy
  rw [h] at h1
  exact K.inj x y hx hy (K.keyed.inj h1 h2)
def updK {κ : Type} [DecidableEq κ] (g : κ → Value) (k : κ) (v : Value) : κ → Value := fun y => if y = k then v else g y
theorem updK_same {κ : Type} [DecidableEq κ] (g : κ → Value) (k : κ) (v : Value) : updK g k v k = v := if_pos rfl
theorem updK_other {κ : Type} [DecidableEq κ] (g : κ → Value) {k y : κ} (v : Value) (h : y ≠ k) : updK g k v y = g y := if_neg h
/-- A block is a map of at most n entries that has the value g x at each key x. -/
def MapIs (P : Program) (tK : TypeId) {κ : Type} (lit : κ → Lit) (ok : κ → Prop) (z : Value) (w : World) (b n : Nat) (g : κ → Value) : Prop :=
  ∃ D, w.ownsMap P tK heldE b n D ∧ ∀ x, ok x → D.atKey (lit x) (.held z) = .held (g x)
section
variable {P : Program} {tK tM tE : TypeId} {κ : Type} {enc : κ → Value} {lit : κ → Lit} {ok : κ → Prop} {z : Value} {w w' : World} {b n : Nat} {g : κ → Value}
theorem MapIs.made (w : World) : MapIs P tK lit ok z (w.alloc (.map #[] 0)) w.heap.size 0 (fun _ : κ => z) :=
  ⟨_, World.ownsMap_made _ _ _ _, fun _ _ => rfl⟩
theorem MapIs.lookup (K : KeyK P tK tM tE enc lit ok z) (h : MapIs P tK lit ok z w b n g) {x : κ} (hx : ok x) : (Instr.lookup tM (.map (some b)) (enc x) false).run P w = .ok (g x) w := by
  obtain ⟨D, hD, hg⟩ := h
  obtain ⟨v, ps, hrun, hR⟩ := hD.lookup K.keyed K.und (K.zero w) (zd := .held z) (zp := []) rfl (K.key x hx)
  rw [hrun]
  rw [hg x hx] at hR
  unfold heldE at hR
  injection hR with hR
  injection hR with h1 h2
  injection h1 with h1
  rw [h1]
theorem MapIs.update  [DecidableEq κ] (K : KeyK P tK tM tE enc lit ok z) (h : MapIs P tK lit ok z w b n g) (hn : n < maxLen) {x : κ} (hx : ok x) (v : Value) :
    ∃ w', (Instr.mapUpdate tM (.map (some b)) (enc x) v).run P w = .ok () w' ∧ MapIs P tK lit ok z w' b (n + 1) (updK g x v) ∧ w.grownBy w' (some b) := by
  obtain ⟨D, hD, hg⟩ := h
  obtain ⟨w', hrun, ho, hgr⟩ := hD.update K.keyed K.und hn (K.key x hx) (val := v) (d := .held v) (ps := []) rfl
  refine ⟨w', hrun, ⟨_, ho, fun y hy => ?_⟩, hgr⟩
  by_cases he : y = x
  · subst he
    rw [updK_same]
    exact atKey_put_same hD.isMap (K.keyed.key (K.key y hy)) _ _
  · rw [updK_other _ _ he, atKey_put_other (fun e => he (K.lit_inj hy hx e)), hg y hy]
/-- A key that is there already is no further entry. -/
theorem MapIs.update_at [DecidableEq κ] (K : KeyK P tK tM tE enc lit ok z) (h : MapIs P tK lit ok z w b n g) (hn : n < maxLen) {x : κ} (hx : ok x) (v : Value) :
    ∃ w', (Instr.mapUpdate tM (.map (some b)) (enc x) v).run P w = .ok () w' ∧ MapIs P tK lit ok z w' b (n + 1) (updK g x v) ∧ (g x ≠ z → MapIs P tK lit ok z w' b n (updK g x v)) ∧ w.grownBy w' (some b) := by
  obtain ⟨D, hD, hg⟩ := h
  obtain ⟨w', hrun, ho, hgr⟩ := hD.update K.keyed K.und hn (K.key x hx) (val := v) (d := .held v) (ps := []) rfl
  have hview : ∀ y, ok y → (D.put (lit x) (.held v)).atKey (lit y) (.held z) = .held (updK g x v y) := fun y hy => by
    by_cases he : y = x
    · subst he
      rw [updK_same]
      exact atKey_put_same hD.isMap (K.keyed.key (K.key y hy)) _ _
    · rw [updK_other _ _ he, atKey_put_other (fun e => he (K.lit_inj hy hx e)), hg y hy]
  refine ⟨w', hrun, ⟨_, ho, hview⟩, fun hne => ⟨_, ?_, hview⟩, hgr⟩
  have hh : has D (lit x) = true := by
    cases h : has D (lit x) with
    | true => rfl
    | false =>
      have h1 := atKey_of_not_has h (.held z)
      rw [hg x hx] at h1
      injection h1 with h1
      exact absurd h1 hne
  obtain ⟨es, clock, h1, h2, h3, h4⟩ := ho
  refine ⟨es, clock, h1, h2, ?_, h4⟩
  have hs := size_put (k := lit x) (hD.tidy K.keyed) (.held v)
  rw [hh, if_pos rfl] at hs
  have h5 : size (D.put (lit x) (.held v)) = es.size := by
    rw [h4]
    simp [Maps.size, length_sorted]
  have := hD.size_le
  omega
theorem MapIs.delete  [DecidableEq κ] (K : KeyK P tK tM tE enc lit ok z) (h : MapIs P tK lit ok z w b n g) {x : κ} (hx : ok x) (ty : TypeId) :
    ∃ w', (Builtin.delete_ #[tM, tK] ty #[.map (some b), enc x]).run P w = .ok (.tuple #[]) w' ∧ MapIs P tK lit ok z w' b n (updK g x z) ∧ w.grownBy w' (some b) := by
  obtain ⟨D, hD, hg⟩ := h
  obtain ⟨w', hrun, ho, ht⟩ := hD.drop K.keyed K.und (K.key x hx) ty
  refine ⟨w', hrun, ⟨_, ho, fun y hy => ?_⟩, ht.grown⟩
  by_cases he : y = x
  · subst he
    rw [updK_same]
    exact atKey_del_same _
  · rw [updK_other _ _ he, atKey_del_other (fun e => he (K.lit_inj hy hx e)), hg y hy]
theorem MapIs.lt (h : MapIs P tK lit ok z w b n g) : b < w.heap.size := let ⟨_, h, _⟩ := h; h.lt
theorem MapIs.mono (h : MapIs P tK lit ok z w b n g) {m : Nat} (hm : n ≤ m) : MapIs P tK lit ok z w b m g := let ⟨D, h, k⟩ := h; ⟨D, h.mono hm, k⟩
theorem MapIs.block (h : MapIs P tK lit ok z w b n g) (hb : w'.heap[b]? = w.heap[b]?) : MapIs P tK lit ok z w' b n g := by
  obtain ⟨D, ⟨es, c, h1, h2⟩, k⟩ := h
  exact ⟨D, ⟨es, c, hb.trans h1, h2⟩, k⟩
theorem MapIs.below (h : MapIs P tK lit ok z w b n g) (hb : Below w.heap.size w w') : MapIs P tK lit ok z w' b n g := h.block (hb.block b h.lt)
theorem MapIs.turned {T : Nat → Prop} (h : MapIs P tK lit ok z w b n g) (ht : Turned T w w') (hb : ¬ T b) : MapIs P tK lit ok z w' b n g := h.block (ht.block b h.lt hb)
theorem MapIs.no_cells (h : MapIs P tK lit ok z w b n g) (cur : Array Value) (t : TypeId) (fz : Nat × Nat) : w.heap[b]? ≠ some (.cells cur t fz) := by
  obtain ⟨D, ⟨es, c, h1, _⟩, _⟩ := h
  rw [h1]
  intro e
  cases e
theorem wpList_mapUpdate_at [DecidableEq κ] {ops : Array Oper} {rest : List Oper} {o : Oper} {a : Act} {Q : Exit → Act → World → Prop} (hgd : o.guard = none) (K : KeyK P tK tM tE enc lit ok z) (m x v : Operand) (hop : o.op = Op.mapUpdate tM m x v)
    (h : MapIs P tK lit ok z w b n g) (hm : a.eval m = .map (some b)) (hn : n < maxLen) (k : κ) (hk : ok k) (hx : a.eval x = enc k) (val : Value) (hv : a.eval v = val)
    (hK : ∀ w', MapIs P tK lit ok z w' b (n + 1) (updK g k val) → (g k ≠ z → MapIs P tK lit ok z w' b n (updK g k val)) → w.grownBy w' (some b) → wpList P ops Q rest (a.put o.dst undef) w') : wpList P ops Q (o :: rest) a w := by
  refine wpList_plain hgd fun K' hK' => ?_
  obtain ⟨w', hrun, r1, r2, r3⟩ := h.update_at K hn hk val
  unfold Oper.wp
  simp [execOp, hop, hm, hx, hv, hrun, Result.andThen]
  exact hK' _ _ (hK w' r1 r2 r3)
theorem wpList_mapUpdate_map [DecidableEq κ] {ops : Array Oper} {rest : List Oper} {o : Oper} {a : Act} {Q : Exit → Act → World → Prop} (hgd : o.guard = none) (K : KeyK P tK tM tE enc lit ok z) (m x v : Operand) (hop : o.op = Op.mapUpdate tM m x v)
    (h : MapIs P tK lit ok z w b n g) (hm : a.eval m = .map (some b)) (hn : n < maxLen) (k : κ) (hk : ok k) (hx : a.eval x = enc k) (val : Value) (hv : a.eval v = val)
    (hK : ∀ w', MapIs P tK lit ok z w' b (n + 1) (updK g k val) → w.grownBy w' (some b) → wpList P ops Q rest (a.put o.dst undef) w') : wpList P ops Q (o :: rest) a w := by
  refine wpList_plain hgd fun K' hK' => ?_
  obtain ⟨w', hrun, r1, r2⟩ := h.update K hn hk val
  unfold Oper.wp
  simp [execOp, hop, hm, hx, hv, hrun, Result.andThen]
  exact hK' _ _ (hK w' r1 r2)
theorem step_mapUpdate_map [DecidableEq κ] {ops : Array Oper} {o : Oper} {a : Act} {K0 : Act → World → Prop} {Q : Exit → Act → World → Prop} {E : Prop} (hgd : o.guard = none) (K : KeyK P tK tM tE enc lit ok z) (m x v : Operand) (hop : o.op = Op.mapUpdate tM m x v)
    (h : MapIs P tK lit ok z w b n g) (hm : a.eval m = .map (some b)) (hn : n < maxLen) (k : κ) (hk : ok k) (hx : a.eval x = enc k) (val : Value) (hv : a.eval v = val)
    (hK : ∀ w', MapIs P tK lit ok z w' b (n + 1) (updK g k val) → w.grownBy w' (some b) → K0 (a.put o.dst undef) w') : if Region.wanted o (yielded ops a.tmps) = true then Oper.wp P o a w K0 Q else E := by
  have hw : Region.wanted o (yielded ops a.tmps) = true := by simp [Region.wanted, hgd]
  rw [if_pos hw]
  obtain ⟨w', hrun, r1, r2⟩ := h.update K hn hk val
  unfold Oper.wp
  simp [execOp, hop, hm, hx, hv, hrun, Result.andThen]
  exact hK w' r1 r2
theorem wpList_insert_map [DecidableEq κ] {ops : Array Oper} {rest : List Oper} {o : Oper} {a : Act} {Q : Exit → Act → World → Prop} (hgd : o.guard = none) (K : KeyK P tK tM tE enc lit ok z) (m x v : Operand) (hop : o.op = Op.insert tM m x v)
    (h : MapIs P tK lit ok z w b n g) (hm : a.eval m = .map (some b)) (hn : n < maxLen) (k : κ) (hk : ok k) (hx : a.eval x = enc k) (val : Value) (hv : a.eval v = val)
    (hK : ∀ w', MapIs P tK lit ok z w' b (n + 1) (updK g k val) → w.grownBy w' (some b) → wpList P ops Q rest (a.put o.dst undef) w') : wpList P ops Q (o :: rest) a w := by
  refine wpList_plain hgd fun K' hK' => ?_
  obtain ⟨w', hrun, r1, r2⟩ := h.update K hn hk val
  unfold Oper.wp
  simp [execOp, hop, hm, hx, hv, hrun, Result.andThen]
  exact hK' _ _ (hK w' r1 r2)
theorem wpList_delete_map [DecidableEq κ] {ops : Array Oper} {rest : List Oper} {o : Oper} {a : Act} {Q : Exit → Act → World → Prop} (hgd : o.guard = none) (K : KeyK P tK tM tE enc lit ok z) (m x : Operand) (hop : o.op = Op.call { callee := Callee.builtin Builtin.delete, args := #[m, x], argTypes := #[tM, tK] })
    (h : MapIs P tK lit ok z w b n g) (hm : a.eval m = .map (some b)) (k : κ) (hk : ok k) (hx : a.eval x = enc k)
    (hK : ∀ w', MapIs P tK lit ok z w' b n (updK g k z) → w.grownBy w' (some b) → wpList P ops Q rest (a.put o.dst (.tuple #[])) w') : wpList P ops Q (o :: rest) a w := by
  refine wpList_plain hgd fun K' hK' => ?_
  obtain ⟨w', hrun, r1, r2⟩ := h.delete K hk o.type
  unfold Oper.wp execOp
  simp only [hop, resolve, invoke, builtin, Sem.run_bind, Sem.run_pure, Result.andThen_ok, List.map_toArray, List.map_cons, List.map_nil, hm, hx, hrun]
  exact hK' _ _ (hK w' r1 r2)
end
/-! ### how many keys there can be -/
theorem nodup_lt_length : ∀ (N : Nat) (l : List Nat), l.Nodup → (∀ x ∈ l, x < N) → l.length ≤ N
  | 0, l, _, h => by
    cases l with
    | nil => simp
    | cons a l => have := h a (by simp); omega
  | N + 1, l, hn, h => by
    have h1 := nodup_lt_length N (l.filter (· ≠ N)) (hn.filter _) (fun x hx => by
      rw [List.mem_filter] at hx
      have h1 := h x hx.1
      have h2 : x ≠ N := by simpa using hx.2
      omega)
    have h2 : ∀ l : List Nat, l.Nodup → l.length ≤ (l.filter (· ≠ N)).length + 1 := by
      intro l hl
      induction l with
      | nil => simp
      | cons a l ih =>
        rw [List.nodup_cons] at hl
        by_cases he : a = N
        · subst he
          have : l.filter (· ≠ a) = l := by
            apply List.filter_eq_self.2
            intro x hx
            have : x ≠ a := fun e => hl.1 (e ▸ hx)
            simpa using this
          rw [List.filter_cons_of_neg (by simp), this]
          simp
        · rw [List.filter_cons_of_pos (by simpa using he)]
          have := ih hl.2
          simp
          simpa using this
    have := h2 l hn
    omega
theorem nodup_code_length {κ : Type} (f : κ → Nat) (N : Nat) (ks : List κ) (hn : ks.Nodup) (hi : ∀ x ∈ ks, ∀ y ∈ ks, f x = f y → x = y) (hb : ∀ x ∈ ks, f x < N) : ks.length ≤ N := by
  have h1 : (ks.map f).Nodup := by
    induction ks with
    | nil => simp
    | cons a l ih =>
      rw [List.nodup_cons] at hn
      rw [List.map_cons, List.nodup_cons]
      refine ⟨fun h => ?_, ih hn.2 (fun x hx y hy => hi x (by simp [hx]) y (by simp [hy])) (fun x hx => hb x (by simp [hx]))⟩
      obtain ⟨y, hy, he⟩ := List.mem_map.1 h
      have := hi y (by simp [hy]) a (by simp) he
      subst this
      exact hn.1 hy
  have := nodup_lt_length N (ks.map f) h1 (fun x hx => by
    obtain ⟨y, hy, rfl⟩ := List.mem_map.1 hx
    exact hb y hy)
  simpa using this
end Go.Proofs.Ytcfjepcflanjbaa
/- Keys of maps: spots (places of a text, of cells, states) and places of reading. Plain moves. -/
namespace Go.Proofs.Ytcfjepcflanjbaa
open Go.RowKit Go.Lab Go.WideMaps Go.Maps
set_option maxRecDepth 100000
/-- A place of reading: the state, what the next character has to be, and whether a Switch was read just now. -/
structure PlZ where
  st : StZ
  need : Nat
  sw : Bool
  deriving DecidableEq
def stC (s : StZ) : List Value := [.int .i64 s.lang, .bool s.num, .bool s.word]
def spotV (x : Nat × Nat × StZ) : Value := .agg (.int .i64 (x.1 : Nat) :: .int .i64 (x.2.1 : Nat) :: stC x.2.2).toArray
def placeC (k : Nat) (p : PlZ) : List Value := [.int .i64 (k : Nat), .int .i64 p.st.lang, .bool p.st.num, .bool p.st.word, .int .i64 (p.need : Nat), .bool p.sw]
def placeV (x : Nat × PlZ) : Value := .agg (placeC x.1 x.2).toArray
def spotOk (x : Nat × Nat × StZ) : Prop := x.1 ≤ 1000000 ∧ x.2.1 ≤ 1000000 ∧ (x.2.2.lang = 0 ∨ x.2.2.lang = 1)
def placeOk (x : Nat × PlZ) : Prop := x.1 ≤ 1000000 ∧ x.2.need ≤ 2 ∧ (x.2.st.lang = 0 ∨ x.2.st.lang = 1)
def stL (s : StZ) : List Lit := [.int .i64 s.lang, .bool s.num, .bool s.word]
def spotL (x : Nat × Nat × StZ) : Lit := .string (keyBytes (.int .i64 (x.1 : Nat) :: .int .i64 (x.2.1 : Nat) :: stL x.2.2))
def placeL (x : Nat × PlZ) : Lit := .string (keyBytes [.int .i64 (x.1 : Nat), .int .i64 x.2.st.lang, .bool x.2.st.num, .bool x.2.st.word, .int .i64 (x.2.need : Nat), .bool x.2.sw])
theorem spotWide : (match Try.prog.underlying 94 with | some (.array _ _) | some (.struct _) => true | _ => false) = true := by kernel_rfl
theorem keyedS : Maps.Keyed Try.prog 94 := Maps.Keyed.of_law (deep_law (m := 3) (by omega) (by kernel_rfl) (by kernel_rfl) spotWide)
theorem placeWide : (match Try.prog.underlying 74 with | some (.array _ _) | some (.struct _) => true | _ => false) = true := by kernel_rfl
theorem keyedP : Maps.Keyed Try.prog 74 := Maps.Keyed.of_law (deep_law (m := 3) (by omega) (by kernel_rfl) (by kernel_rfl) placeWide)
theorem wf64 {x : Int} (h1 : -9223372036854775808 ≤ x) (h2 : x ≤ 9223372036854775807) : (Lit.int .i64 x).wf = true := by simp [Lit.wf, IntKind.min, IntKind.max, IntKind.signed, IntKind.bits]; omega
theorem lits_int {m : Nat} {x : Int} (h1 : -9223372036854775808 ≤ x) (h2 : x ≤ 9223372036854775807) : Try.prog.keyLits (m + 1) 3 [.int .i64 x] = some [.int .i64 x] := by
  unfold Program.keyLits
  rw [Try.underlying3]
  simp [wf64 h1 h2]
theorem lits_bool {m : Nat} {x : Bool} : Try.prog.keyLits (m + 1) 4 [.bool x] = some [.bool x] := by
  unfold Program.keyLits
  rw [Try.underlying4]
theorem types_succ : ∃ m, Try.prog.types.size = m + 3 := ⟨Try.prog.types.size - 3, by have h0 : 3 ≤ Try.prog.types.size := of_decide_eq_true (by kernel_rfl); omega⟩
theorem lits_state {m : Nat} {s : StZ} (h : s.lang = 0 ∨ s.lang = 1) : Try.prog.keyLits (m + 2) 72 (stC s) = some (stL s) := by
  have hc : Try.prog.cellsOf 72 = 3 := by kernel_rfl
  have hci : Try.prog.cellsOf 3 = 1 := by kernel_rfl
  have hcb : Try.prog.cellsOf 4 = 1 := by kernel_rfl
  unfold Program.keyLits
  rw [Try.underlying72]
  simp only [hc, stC]
  rw [if_pos ⟨by rfl, by kernel_rfl⟩]
  simp [hci, hcb, lits_int (by omega : -9223372036854775808 ≤ s.lang) (by omega), lits_bool, stL]
theorem spot_key (x : Nat × Nat × StZ) (h : spotOk x) : keyOf Try.prog 94 (spotV x) = some (spotL x) := by
  have hk : Try.prog.keyType 94 = true := by kernel_rfl
  have hc : Try.prog.cellsOf 94 = 5 := by kernel_rfl
  have hci : Try.prog.cellsOf 3 = 1 := by kernel_rfl
  have hcs : Try.prog.cellsOf 72 = 3 := by kernel_rfl
  have hf : (spotV x).formed Try.prog 94 = true := by
    unfold spotV Value.formed
    rw [Try.underlying94]
    simp [hc, stC]
  obtain ⟨m, hm⟩ := types_succ
  have h1 : (-9223372036854775808 : Int) ≤ (x.1 : Int) ∧ (x.1 : Int) ≤ 9223372036854775807 := by have := h.1; omega
  have h2 : (-9223372036854775808 : Int) ≤ (x.2.1 : Int) ∧ (x.2.1 : Int) ≤ 9223372036854775807 := by have := h.2.1; omega
  have e3 : Try.prog.keyLits (m + 3) 72 (stC x.2.2) = some (stL x.2.2) := lits_state h.2.2
  unfold stC at e3
  have hl : Try.prog.keyLits (Try.prog.types.size + 1) 94 (.int .i64 (x.1 : Nat) :: .int .i64 (x.2.1 : Nat) :: stC x.2.2) = some (.int .i64 (x.1 : Nat) :: .int .i64 (x.2.1 : Nat) :: stL x.2.2) := by
    rw [hm]
    unfold Program.keyLits
    rw [Try.underlying94]
    simp only [hc]
    rw [if_pos ⟨by rfl, by kernel_rfl⟩]
    simp [hci, hcs, lits_int h1.1 h1.2, lits_int h2.1 h2.2, stC, e3]
  unfold keyOf
  rw [Try.underlying94]
  simp only [hk, hf, Bool.and_self, if_true]
  rw [show (spotV x).cells.toList = .int .i64 (x.1 : Nat) :: .int .i64 (x.2.1 : Nat) :: stC x.2.2 from rfl, hl]
  rfl
theorem place_key (x : Nat × PlZ) (h : placeOk x) : keyOf Try.prog 74 (placeV x) = some (placeL x) := by
  have hk : Try.prog.keyType 74 = true := by kernel_rfl
  have hc : Try.prog.cellsOf 74 = 6 := by kernel_rfl
  have hci : Try.prog.cellsOf 3 = 1 := by kernel_rfl
  have hcb : Try.prog.cellsOf 4 = 1 := by kernel_rfl
  have hcs : Try.prog.cellsOf 72 = 3 := by kernel_rfl
  have hf : (placeV x).formed Try.prog 74 = true := by
    unfold placeV placeC Value.formed
    rw [Try.underlying74]
    simp [hc]
  obtain ⟨m, hm⟩ := types_succ
  have h1 : (-9223372036854775808 : Int) ≤ (x.1 : Int) ∧ (x.1 : Int) ≤ 9223372036854775807 := by have := h.1; omega
  have h2 : (-9223372036854775808 : Int) ≤ (x.2.need : Int) ∧ (x.2.need : Int) ≤ 9223372036854775807 := by have := h.2.1; omega
  have e3 : Try.prog.keyLits (m + 3) 72 (stC x.2.st) = some (stL x.2.st) := lits_state h.2.2
  unfold stC stL at e3
  have hl : Try.prog.keyLits (Try.prog.types.size + 1) 74 (placeC x.1 x.2) = some [.int .i64 (x.1 : Nat), .int .i64 x.2.st.lang, .bool x.2.st.num, .bool x.2.st.word, .int .i64 (x.2.need : Nat), .bool x.2.sw] := by
    rw [hm]
    unfold Program.keyLits
    rw [Try.underlying74]
    simp only [hc, placeC]
    rw [if_pos ⟨by rfl, by kernel_rfl⟩]
    simp [hci, hcs, hcb, lits_int h1.1 h1.2, lits_int h2.1 h2.2, lits_bool, e3]
  unfold keyOf
  rw [Try.underlying74]
  simp only [hk, hf, Bool.and_self, if_true]
  rw [show (placeV x).cells.toList = placeC x.1 x.2 from rfl, hl]
  rfl
theorem spot_inj (x y : Nat × Nat × StZ) (_ : spotOk x) (_ : spotOk y) (h : spotV x = spotV y) : x = y := by
  obtain ⟨a, b, ⟨l, n, i⟩⟩ := x
  obtain ⟨a', b', ⟨l', n', i'⟩⟩ := y
  simp [spotV, stC] at h
  obtain ⟨h1, h2, h3, h4, h5⟩ := h
  obtain rfl : a = a' := by omega
  obtain rfl : b = b' := by omega
  subst h3 h4 h5
  rfl
theorem place_inj (x y : Nat × PlZ) (_ : placeOk x) (_ : placeOk y) (h : placeV x = placeV y) : x = y := by
  obtain ⟨a, ⟨⟨l, n, i⟩, d, s⟩⟩ := x
  obtain ⟨a', ⟨⟨l', n', i'⟩, d', s'⟩⟩ := y
  simp [placeV, placeC] at h
  obtain ⟨h1, h2, h3, h4, h5, h6⟩ := h
  obtain rfl : a = a' := by omega
  obtain rfl : d = d' := by omega
  subst h2 h3 h4 h6
  rfl
theorem spotK : KeyK Try.prog 94 91 4 spotV spotL spotOk (.bool false) :=
  ⟨keyedS, spot_key, spot_inj, Try.underlying91, fun w => by kernel_rfl⟩
theorem placeKB : KeyK Try.prog 74 104 4 placeV placeL placeOk (.bool false) :=
  ⟨keyedP, place_key, place_inj, Try.underlying104, fun w => by kernel_rfl⟩
theorem placeKT : KeyK Try.prog 74 107 42 placeV placeL placeOk (.slice none 0 0) :=
  ⟨keyedP, place_key, place_inj, Try.underlying107, fun w => by kernel_rfl⟩
end Go.Proofs.Ytcfjepcflanjbaa
