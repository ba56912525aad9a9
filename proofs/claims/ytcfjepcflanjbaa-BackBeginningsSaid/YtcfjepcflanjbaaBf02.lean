/- Texts and edits as plain data, how their cells read, and the element types of the slices that the code appends to. -/
import Derived.Test.YtcfjepcflanjbaaBf01
import Derived.Test.YtcfjepcflanjbaaRows
namespace Go.Proofs.Ytcfjepcflanjbaa
open Go.RowKit Go.Lab
structure Sym where
  lang : Int
  c : Int
  deriving DecidableEq
structure Edit where
  pos : Int
  del : Int
  ins : List Sym
  deriving DecidableEq

def symC (s : Sym) : List Value := [.int .i64 s.lang, .int .u8 s.c]
def symsC (l : List Sym) : List Value := l.flatMap symC
theorem symsC_nil : symsC [] = [] := rfl
theorem symsC_append (a b : List Sym) : symsC (a ++ b) = symsC a ++ symsC b := by simp [symsC]
theorem symsC_one_ (s : Sym) : symsC [s] = [.int .i64 s.lang, .int .u8 s.c] := rfl
theorem symsC_len (l : List Sym) : (symsC l).length = l.length * 2 := by
  induction l with
  | nil => rfl
  | cons a l ih => simp [symsC, symC] at *; omega
theorem symsC_one (l : List Sym) : ∀ u ∈ symsC l, u.oneCell' = true := by
  intro u hu
  obtain ⟨x, _, hx⟩ := List.mem_flatMap.1 hu
  simp [symC] at hx
  rcases hx with rfl | rfl <;> rfl
theorem symsC_get (l : List Sym) (i : Nat) (h : i < l.length) : (symsC l)[i * 2]? = some (.int .i64 l[i].lang) ∧ (symsC l)[i * 2 + 1]? = some (.int .u8 l[i].c) := by
  induction l generalizing i with
  | nil => simp at h
  | cons a l ih =>
    cases i with
    | zero => simp [symsC, symC]
    | succ i =>
      have := ih i (by simpa using h)
      have e : (i + 1) * 2 = i * 2 + 1 + 1 := by omega
      simpa [symsC, symC, e] using this
theorem symsC_drop (l : List Sym) (i : Nat) : (symsC l).drop (i * 2) = symsC (l.drop i) := by
  induction i generalizing l with
  | zero => simp
  | succ i ih =>
    cases l with
    | nil => simp [symsC]
    | cons a l =>
      have e : (i + 1) * 2 = i * 2 + 1 + 1 := by omega
      have := ih l
      simpa [symsC, symC, e] using this
theorem symsC_take (l : List Sym) (i : Nat) : (symsC l).take (i * 2) = symsC (l.take i) := by
  induction i generalizing l with
  | zero => simp [symsC]
  | succ i ih =>
    cases l with
    | nil => simp [symsC]
    | cons a l =>
      have e : (i + 1) * 2 = i * 2 + 1 + 1 := by omega
      have := ih l
      simpa [symsC, symC, e] using this
def SymsAt (w : World) (v : Value) (l : List Sym) : Prop := Rd w (· = 49) 2 v l.length (symsC l)
theorem SymsAt.keeps {w w' : World} {v : Value} {l : List Sym} {T : TypeId → Prop} (h : SymsAt w v l) (hk : Keeps T w w') (hT : T 49) : SymsAt w' v l :=
  Rd.keeps h (hk.mono (by rintro t rfl; exact hT))
theorem SymsAt.below {w w' : World} {v : Value} {l : List Sym} (h : SymsAt w v l) (hb : Below w.heap.size w w') : SymsAt w' v l := Rd.below h hb
theorem SymsAt.nil (w : World) : SymsAt w (.slice none 0 0) [] := Rd.nil _ _ _
theorem SymsAt.of_own {w : World} {base : Nat} {v : Value} {l : List Sym} (h : w.ownsRow base 49 2 v l.length (symsC l)) : SymsAt w v l := Rd.of_own h
theorem SymsAt.form {w : World} {v : Value} {l : List Sym} (h : SymsAt w v l) : ∃ a cap, v = .slice a l.length cap ∧ l.length ≤ cap ∧ cap ≤ maxLen := Rd.form h
theorem SymsAt.at {w : World} {a : Option Addr} {c : Nat} {l : List Sym} (h : SymsAt w (.slice a l.length c) l) {k : Nat} (hk : k < l.length) :
    ∃ b off, a = some ⟨b, off, none⟩ ∧ b < w.heap.size ∧ w.cell? ⟨b, off + k * 2, none⟩ = some (.int .i64 l[k].lang) ∧ w.cell? ⟨b, off + k * 2 + 1, none⟩ = some (.int .u8 l[k].c) := by
  obtain ⟨b, off, e, hb, hc⟩ := Rd.at h (by omega)
  have := symsC_get l k hk
  exact ⟨b, off, e, hb, hc _ _ this.1, hc (k * 2 + 1) _ this.2⟩
theorem SymsAt.part {w : World} {a : Option Addr} {c : Nat} {l : List Sym} (h : SymsAt w (.slice a l.length c) l) {x y m : Nat} (h1 : x ≤ y) (h2 : y ≤ l.length) (h3 : y ≤ m) (h4 : m ≤ c) :
    SymsAt w (.slice (if m = x then a else a.map (·.add (x * 2))) (y - x) (m - x)) ((l.drop x).take (y - x)) := by
  have := Rd.part h h1 h2 h3 h4
  rw [symsC_drop, symsC_take] at this
  unfold SymsAt
  have e : ((l.drop x).take (y - x)).length = y - x := by simp; omega
  rw [e]
  exact this
def editC (e : Edit) (u : Value) : List Value := [.int .i64 e.pos, .int .i64 e.del, u]
def editsC : List Edit → List Value → List Value
  | e :: l, u :: us => editC e u ++ editsC l us
  | _, _ => []
theorem editsC_len : ∀ (l : List Edit) (us : List Value), us.length = l.length → (editsC l us).length = l.length * 3
  | [], [], _ => rfl
  | [], _ :: _, h => by simp at h
  | _ :: _, [], h => by simp at h
  | e :: l, u :: us, h => by
    have := editsC_len l us (by simpa using h)
    simp [editsC, editC, this]; omega
theorem editsC_snoc : ∀ (l : List Edit) (us : List Value) (e : Edit) (u : Value), us.length = l.length → editsC (l ++ [e]) (us ++ [u]) = editsC l us ++ editC e u
  | [], [], e, u, _ => by simp [editsC]
  | [], _ :: _, _, _, h => by simp at h
  | _ :: _, [], _, _, h => by simp at h
  | a :: l, b :: us, e, u, h => by
    have := editsC_snoc l us e u (by simpa using h)
    simp [editsC, this]
theorem editsC_get : ∀ (l : List Edit) (us : List Value) (i : Nat) (h : i < l.length) (h' : i < us.length),
    (editsC l us)[i * 3]? = some (.int .i64 l[i].pos) ∧ (editsC l us)[i * 3 + 1]? = some (.int .i64 l[i].del) ∧ (editsC l us)[i * 3 + 2]? = some us[i]
  | [], _, _, h, _ => by simp at h
  | _ :: _, [], _, _, h' => by simp at h'
  | a :: l, b :: us, 0, _, _ => by simp [editsC, editC]
  | a :: l, b :: us, i + 1, h, h' => by
    have := editsC_get l us i (by simpa using h) (by simpa using h')
    have e : (i + 1) * 3 = i * 3 + 1 + 1 + 1 := by omega
    simpa [editsC, editC, e] using this
theorem slSyms : SlT Try.prog 33 49 (.agg #[.int .i64 0, .int .u8 0]) 2 16 := ⟨by kernel_rfl, by kernel_rfl, rfl, by decide⟩
theorem slInts : SlT Try.prog 22 3 (.int .i64 0) 1 8 := ⟨by kernel_rfl, by kernel_rfl, rfl, by decide⟩
theorem fields_sym : (Try.prog.fieldsOf 49).toList.map (fun f => (f.name == "_", f.type, f.offset)) = [(false, 3, 0), (false, 5, 1)] := by kernel_rfl
theorem run_eqIn_sym (d : Nat) (x1 x2 y1 y2 : Int) (w : World) : (Op.equalIn (d + 2) 49 (.agg #[.int .i64 x1, .int .u8 x2]) (.agg #[.int .i64 y1, .int .u8 y2])).run Try.prog w = .ok ((x1 == y1) && (x2 == y2)) w := by
  rw [show d + 2 = (d + 1) + 1 from rfl, run_equalIn_struct w (d + 1) 49 _ _ (by kernel_rfl) (by kernel_rfl)]
  have hf := fields_sym
  generalize (Try.prog.fieldsOf 49).toList = L at hf ⊢
  obtain ⟨f0, f1, rfl⟩ : ∃ f0 f1, L = [f0, f1] := by
    have hl := congrArg List.length hf
    simp only [List.length_map, List.length_cons, List.length_nil] at hl
    match L, hl with
    | [f0, f1], _ => exact ⟨f0, f1, rfl⟩
  simp only [List.map_cons, List.map_nil, List.cons.injEq, Prod.mk.injEq, beq_eq_false_iff_ne, ne_eq, and_true] at hf
  obtain ⟨⟨n0, t0, o0⟩, n1, t1, o1⟩ := hf
  simp only [Op.eqFields, n0, n1, t0, t1, o0, o1, ne_eq, not_false_eq_true, if_true, Sem.run_bind]
  have p0 : ∀ (a b : Int) (w : World), (part 3 #[.int .i64 a, .int .u8 b] 0).run Try.prog w = .ok (.int .i64 a) w := fun _ _ _ => by kernel_rfl
  have p1 : ∀ (a b : Int) (w : World), (part 5 #[.int .i64 a, .int .u8 b] 1).run Try.prog w = .ok (.int .u8 b) w := fun _ _ _ => by kernel_rfl
  have q1 := run_equalIn_int (P := Try.prog) w d 5 .u8 .u8 x2 y2 Try.underlying5
  simp only [p0, Result.andThen_ok, run_equalIn_int w d 3 .i64 .i64 x1 y1 Try.underlying3]
  by_cases h : x1 = y1
  · subst h
    by_cases h2 : x2 = y2
    · subst h2; simp [p1, q1]
    · have : (x2 == y2) = false := by simpa using h2
      simp [this, p1, q1]
  · have : (x1 == y1) = false := by simpa using h
    simp [this]
theorem run_eql_sym (x1 x2 y1 y2 : Int) (w : World) : (binOp .eql 49 (.agg #[.int .i64 x1, .int .u8 x2]) (.agg #[.int .i64 y1, .int .u8 y2])).run Try.prog w = .ok (.bool ((x1 == y1) && (x2 == y2))) w := by
  rw [run_eql_struct, show (10000 : Nat) = 9998 + 2 from rfl, run_eqIn_sym]; rfl
theorem run_neq_sym (x1 x2 y1 y2 : Int) (w : World) : (binOp .neq 49 (.agg #[.int .i64 x1, .int .u8 x2]) (.agg #[.int .i64 y1, .int .u8 y2])).run Try.prog w = .ok (.bool (!((x1 == y1) && (x2 == y2)))) w := by
  rw [run_neq_struct, show (10000 : Nat) = 9998 + 2 from rfl, run_eqIn_sym]; rfl
theorem run_guard_sym (op : BinOp) (x y : Operand) (xs ys : Array Value) (w : World) : (eqGuard op 49 x y (.agg xs) (.agg ys)).run Try.prog w = .ok () w :=
  run_eqGuard_agg w op 49 x y xs ys (by kernel_rfl)
end Go.Proofs.Ytcfjepcflanjbaa
/- Tables of rules as plain data, and how their cells read. -/
namespace Go.Proofs.Ytcfjepcflanjbaa
open Go.RowKit Go.Lab
structure RuleZ where
  text : ByteArray
  wh : Int
  cells : List Int
  deriving DecidableEq
structure TabZ where
  l0 : List RuleZ
  l1 : List RuleZ
  dg : List Int
  cp : List Int
  nm : List Int
  en : List Int
  sw : List Int
  deriving DecidableEq
def TabZ.rules (T : TabZ) (lang : Int) : List RuleZ := if lang = 0 then T.l0 else T.l1
def byC (l : List Int) : List Value := l.map (Value.int .u8)
def BysAt (w : World) (v : Value) (l : List Int) : Prop := Rd w (fun _ => True) 1 v l.length (byC l) ∧ ∀ x ∈ l, 0 ≤ x ∧ x < 256
theorem BysAt.below {w w' : World} {v : Value} {l : List Int} (h : BysAt w v l) (hb : Below w.heap.size w w') : BysAt w' v l := ⟨h.1.below hb, h.2⟩
theorem BysAt.nil (w : World) : BysAt w (.slice none 0 0) [] := ⟨Rd.nil _ _ _, fun x hx => by cases hx⟩
theorem byC_len (l : List Int) : (byC l).length = l.length := by simp [byC]
theorem byC_one (l : List Int) : ∀ u ∈ byC l, u.oneCell' = true := by
  intro u hu
  simp only [byC, List.mem_map] at hu
  obtain ⟨_, _, rfl⟩ := hu
  rfl
theorem byC_append (a b : List Int) : byC (a ++ b) = byC a ++ byC b := by simp [byC]
theorem byC_get (l : List Int) (k : Nat) (h : k < l.length) : (byC l)[k]? = some (.int .u8 l[k]) := by simp [byC, h]
theorem byC_drop (l : List Int) (k : Nat) : (byC l).drop k = byC (l.drop k) := by simp [byC]
theorem byC_take (l : List Int) (k : Nat) : (byC l).take k = byC (l.take k) := by simp [byC]
/-- A cell of a slice of bytes. -/
theorem BysAt.at {w : World} {a : Option Addr} {c : Nat} {l : List Int} (h : BysAt w (.slice a l.length c) l) {k : Nat} (hk : k < l.length) :
    ∃ b off, a = some ⟨b, off, none⟩ ∧ b < w.heap.size ∧ w.cell? ⟨b, off + k, none⟩ = some (.int .u8 l[k]) ∧ 0 ≤ l[k] ∧ l[k] < 256 := by
  obtain ⟨b, off, e, hb, hc⟩ := Rd.at h.1 (by omega)
  exact ⟨b, off, e, hb, hc k _ (byC_get l k hk), h.2 _ (List.getElem_mem hk)⟩
def ruleC (r : RuleZ) (u : Value) : List Value := [.string r.text, .int .i64 r.wh, u]
def rulesC : List RuleZ → List Value → List Value
  | r :: l, u :: us => ruleC r u ++ rulesC l us
  | _, _ => []
theorem rulesC_len : ∀ (l : List RuleZ) (us : List Value), us.length = l.length → (rulesC l us).length = l.length * 3
  | [], [], _ => rfl
  | [], _ :: _, h => by simp at h
  | _ :: _, [], h => by simp at h
  | a :: l, b :: us, h => by
    rw [rulesC, List.length_append, rulesC_len l us (by simpa using h)]
    simp [ruleC]; omega
theorem rulesC_snoc : ∀ (l : List RuleZ) (us : List Value) (r : RuleZ) (u : Value), us.length = l.length → rulesC (l ++ [r]) (us ++ [u]) = rulesC l us ++ ruleC r u
  | [], [], r, u, _ => by simp [rulesC]
  | [], _ :: _, _, _, h => by simp at h
  | _ :: _, [], _, _, h => by simp at h
  | a :: l, b :: us, r, u, h => by
    have := rulesC_snoc l us r u (by simpa using h)
    simp [rulesC, this]
theorem rulesC_get : ∀ (l : List RuleZ) (us : List Value) (i j : Nat) (h : i < l.length) (h' : i < us.length), j < 3 → (rulesC l us)[i * 3 + j]? = (ruleC l[i] us[i])[j]?
  | [], _, _, _, h, _, _ => by simp at h
  | _ :: _, [], _, _, _, h, _ => by simp at h
  | a :: l, b :: us, 0, j, _, _, hj => by
    rw [rulesC, Nat.zero_mul, Nat.zero_add, List.getElem?_append_left (by simp [ruleC]; omega)]
    rfl
  | a :: l, b :: us, i + 1, j, h, h', hj => by
    have := rulesC_get l us i j (by simpa using h) (by simpa using h') hj
    rw [rulesC, List.getElem?_append_right (by simp [ruleC]; omega)]
    simp only [ruleC, List.length_cons, List.length_nil, List.getElem_cons_succ]
    rw [show (i + 1) * 3 + j - (0 + 1 + 1 + 1) = i * 3 + j from by omega]
    exact this
/-- A slice of rules: the cells, and each rule's cells in their own slice. -/
def RulesAt (w : World) (v : Value) (l : List RuleZ) : Prop :=
  ∃ us : List Value, us.length = l.length ∧ Rd w (fun _ => True) 3 v l.length (rulesC l us) ∧ ∀ i (h : i < l.length) (h' : i < us.length), BysAt w us[i] l[i].cells
theorem RulesAt.below {w w' : World} {v : Value} {l : List RuleZ} (h : RulesAt w v l) (hb : Below w.heap.size w w') : RulesAt w' v l := by
  obtain ⟨us, hl, hr, hs⟩ := h
  exact ⟨us, hl, hr.below hb, fun i a b => (hs i a b).below hb⟩
theorem RulesAt.form {w : World} {v : Value} {l : List RuleZ} (h : RulesAt w v l) : ∃ a cap, v = .slice a l.length cap ∧ l.length ≤ cap ∧ cap ≤ maxLen := by
  obtain ⟨us, _, hr, _⟩ := h
  exact hr.form
theorem RulesAt.nil (w : World) : RulesAt w (.slice none 0 0) [] := ⟨[], rfl, Rd.nil _ _ _, fun i h => by simp at h⟩
/-- A rule as it reads. -/
theorem RulesAt.at {w : World} {a : Option Addr} {c : Nat} {l : List RuleZ} (h : RulesAt w (.slice a l.length c) l) {k : Nat} (hk : k < l.length) :
    ∃ b off u, a = some ⟨b, off, none⟩ ∧ b < w.heap.size ∧ w.rangeAt b (off + k * 3) (ruleC l[k] u) ∧ BysAt w u l[k].cells := by
  obtain ⟨us, hl, hr, hs⟩ := h
  obtain ⟨b, off, e, hb, hc⟩ := Rd.at hr (by omega)
  have hk' : k < us.length := by omega
  refine ⟨b, off, us[k], e, hb, fun j x hx => ?_, hs k hk hk'⟩
  have hj : j < 3 := by
    have := (List.getElem?_eq_some_iff.1 hx).1
    simpa [ruleC] using this
  rw [Nat.add_assoc]
  apply hc
  rw [rulesC_get l us k j hk hk' hj]
  exact hx
/-- The values of tables. -/
structure TabV where
  a : Value
  b : Value
  d : Value
  c : Value
  n : Value
  e : Value
  s : Value
def TabV.v (V : TabV) : Value := .agg #[V.a, V.b, V.d, V.c, V.n, V.e, V.s]
structure TabIn (w : World) (V : TabV) (T : TabZ) : Prop where
  r0 : RulesAt w V.a T.l0
  r1 : RulesAt w V.b T.l1
  dg : BysAt w V.d T.dg
  cp : BysAt w V.c T.cp
  nm : BysAt w V.n T.nm
  en : BysAt w V.e T.en
  sw : BysAt w V.s T.sw
theorem TabIn.below {w w' : World} {V : TabV} {T : TabZ} (h : TabIn w V T) (hb : Below w.heap.size w w') : TabIn w' V T :=
  ⟨h.r0.below hb, h.r1.below hb, h.dg.below hb, h.cp.below hb, h.nm.below hb, h.en.below hb, h.sw.below hb⟩
/-! ### plain: what tables have to be -/
def cellB (c : Int) : Bool := decide (1 ≤ c) && decide (c ≤ 63)
def cellsB (l : List Int) (lo hi : Nat) : Bool := l.all cellB && (decide (lo ≤ l.length) && decide (l.length ≤ hi))
def lowB (c : Int) : Bool := decide (97 ≤ c) && decide (c ≤ 122)
def capB (c : Int) : Bool := decide (65 ≤ c) && decide (c ≤ 90)
def digB (c : Int) : Bool := decide (48 ≤ c) && decide (c ≤ 57)
def charB (c : Int) : Bool := decide (32 ≤ c) && decide (c ≤ 126)
def byts (s : ByteArray) : List Int := s.data.toList.map fun b => (b.toNat : Int)
def lowsB (s : ByteArray) : Bool := (byts s).all lowB
def headC (s : ByteArray) : Int := (byts s).headD 0
/-- One character that is neither a letter nor a digit. -/
def markB (r : RuleZ) : Bool := decide (r.text.size = 1) && (charB (headC r.text) && (!lowB (headC r.text) && (!capB (headC r.text) && (!digB (headC r.text) && decide (r.wh = 0)))))
def rightB (r : RuleZ) : Bool := decide (1 ≤ r.text.size) && (decide (r.text.size ≤ 8) && (decide (0 ≤ r.wh) && (decide (r.wh ≤ 3) && (cellsB r.cells 1 4 && (lowsB r.text || markB r)))))
def sameR (a b : RuleZ) : Bool := decide (a.text = b.text) && decide (a.wh = b.wh)
def rule0 : RuleZ := ⟨ByteArray.empty, 0, []⟩
/-- Has a rule the text and the context of one before? -/
def twiceB (L : List RuleZ) : Bool := (List.range L.length).any fun i => (L.take i).any (sameR (L.getD i rule0))
def ownB (l : List RuleZ) (c : Int) : Bool := l.any fun r => decide (r.wh = 0) && decide (byts r.text = [c])
def lettersZ : List Int := (List.range 26).map fun k : Nat => 97 + (k : Int)
/-- The error of tables. -/
def validE (T : TabZ) : Int :=
  if 96 < T.l0.length ∨ 96 < T.l1.length then 4
  else if (T.l0.all rightB && (T.l1.all rightB && (cellsB T.dg 10 10 && (cellsB T.cp 1 4 && (cellsB T.nm 1 4 && (cellsB T.en 1 4 && cellsB T.sw 1 4)))))) = false then 1
  else if (twiceB T.l0 || twiceB T.l1) = true then 7
  else if (lettersZ.all (ownB T.l0) && lettersZ.all (ownB T.l1)) = false then 6
  else 0
end Go.Proofs.Ytcfjepcflanjbaa
