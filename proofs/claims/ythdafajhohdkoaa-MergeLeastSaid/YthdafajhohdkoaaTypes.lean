/- Texts and edits as plain data, how their cells read, and the element types of the slices that the code appends to. -/
import Derived.Test.YthdafajhohdkoaaBase
import Derived.Test.YthdafajhohdkoaaRows
namespace Go.Proofs.Ythdafajhohdkoaa
open Go.RowKit Go.Lab
structure Sym where
  lang : Int
  c : Int
  deriving DecidableEq
structure Edit where
  pos : Int
  del : Int
  ins : List Sym
  deriving DecidableEq

def symC (s : Sym) : List Value := [.int .i64 s.lang, .int .u8 s.c]
def symsC (l : List Sym) : List Value := l.flatMap symC
theorem symsC_nil : symsC [] = [] := rfl
theorem symsC_append (a b : List Sym) : symsC (a ++ b) = symsC a ++ symsC b := by simp [symsC]
theorem symsC_one_ (s : Sym) : symsC [s] = [.int .i64 s.lang, .int .u8 s.c] := rfl
theorem symsC_len (l : List Sym) : (symsC l).length = l.length * 2 := by
  induction l with
  | nil => rfl
  | cons a l ih => simp [symsC, symC] at *; omega
theorem symsC_one (l : List Sym) : ∀ u ∈ symsC l, u.oneCell' = true := by
  intro u hu
  obtain ⟨x, _, hx⟩ := List.mem_flatMap.1 hu
  simp [symC] at hx
  rcases hx with rfl | rfl <;> rfl
theorem symsC_get (l : List Sym) (i : Nat) (h : i < l.length) : (symsC l)[i * 2]? = some (.int .i64 l[i].lang) ∧ (symsC l)[i * 2 + 1]? = some (.int .u8 l[i].c) := by
  induction l generalizing i with
  | nil => simp at h
  | cons a l ih =>
    cases i with
    | zero => simp [symsC, symC]
    | succ i =>
      have := ih i (by simpa using h)
      have e : (i + 1) * 2 = i * 2 + 1 + 1 := by omega
      simpa [symsC, symC, e] using this
theorem symsC_drop (l : List Sym) (i : Nat) : (symsC l).drop (i * 2) = symsC (l.drop i) := by
  induction i generalizing l with
  | zero => simp
  | succ i ih =>
    cases l with
    | nil => simp [symsC]
    | cons a l =>
      have e : (i + 1) * 2 = i * 2 + 1 + 1 := by omega
      have := ih l
      simpa [symsC, symC, e] using this
theorem symsC_take (l : List Sym) (i : Nat) : (symsC l).take (i * 2) = symsC (l.take i) := by
  induction i generalizing l with
  | zero => simp [symsC]
  | succ i ih =>
    cases l with
    | nil => simp [symsC]
    | cons a l =>
      have e : (i + 1) * 2 = i * 2 + 1 + 1 := by omega
      have := ih l
      simpa [symsC, symC, e] using this
def SymsAt (w : World) (v : Value) (l : List Sym) : Prop := Rd w (· = 34) 2 v l.length (symsC l)
theorem SymsAt.keeps {w w' : World} {v : Value} {l : List Sym} {T : TypeId → Prop} (h : SymsAt w v l) (hk : Keeps T w w') (hT : T 34) : SymsAt w' v l :=
  Rd.keeps h (hk.mono (by rintro t rfl; exact hT))
theorem SymsAt.below {w w' : World} {v : Value} {l : List Sym} (h : SymsAt w v l) (hb : Below w.heap.size w w') : SymsAt w' v l := Rd.below h hb
theorem SymsAt.nil (w : World) : SymsAt w (.slice none 0 0) [] := Rd.nil _ _ _
theorem SymsAt.of_own {w : World} {base : Nat} {v : Value} {l : List Sym} (h : w.ownsRow base 34 2 v l.length (symsC l)) : SymsAt w v l := Rd.of_own h
theorem SymsAt.form {w : World} {v : Value} {l : List Sym} (h : SymsAt w v l) : ∃ a cap, v = .slice a l.length cap ∧ l.length ≤ cap ∧ cap ≤ maxLen := Rd.form h
theorem SymsAt.at {w : World} {a : Option Addr} {c : Nat} {l : List Sym} (h : SymsAt w (.slice a l.length c) l) {k : Nat} (hk : k < l.length) :
    ∃ b off, a = some ⟨b, off, none⟩ ∧ b < w.heap.size ∧ w.cell? ⟨b, off + k * 2, none⟩ = some (.int .i64 l[k].lang) ∧ w.cell? ⟨b, off + k * 2 + 1, none⟩ = some (.int .u8 l[k].c) := by
  obtain ⟨b, off, e, hb, hc⟩ := Rd.at h (by omega)
  have := symsC_get l k hk
  exact ⟨b, off, e, hb, hc _ _ this.1, hc (k * 2 + 1) _ this.2⟩
theorem SymsAt.part {w : World} {a : Option Addr} {c : Nat} {l : List Sym} (h : SymsAt w (.slice a l.length c) l) {x y m : Nat} (h1 : x ≤ y) (h2 : y ≤ l.length) (h3 : y ≤ m) (h4 : m ≤ c) :
    SymsAt w (.slice (if m = x then a else a.map (·.add (x * 2))) (y - x) (m - x)) ((l.drop x).take (y - x)) := by
  have := Rd.part h h1 h2 h3 h4
  rw [symsC_drop, symsC_take] at this
  unfold SymsAt
  have e : ((l.drop x).take (y - x)).length = y - x := by simp; omega
  rw [e]
  exact this
def editC (e : Edit) (u : Value) : List Value := [.int .i64 e.pos, .int .i64 e.del, u]
def editsC : List Edit → List Value → List Value
  | e :: l, u :: us => editC e u ++ editsC l us
  | _, _ => []
theorem editsC_len : ∀ (l : List Edit) (us : List Value), us.length = l.length → (editsC l us).length = l.length * 3
  | [], [], _ => rfl
  | [], _ :: _, h => by simp at h
  | _ :: _, [], h => by simp at h
  | e :: l, u :: us, h => by
    have := editsC_len l us (by simpa using h)
    simp [editsC, editC, this]; omega
theorem editsC_snoc : ∀ (l : List Edit) (us : List Value) (e : Edit) (u : Value), us.length = l.length → editsC (l ++ [e]) (us ++ [u]) = editsC l us ++ editC e u
  | [], [], e, u, _ => by simp [editsC]
  | [], _ :: _, _, _, h => by simp at h
  | _ :: _, [], _, _, h => by simp at h
  | a :: l, b :: us, e, u, h => by
    have := editsC_snoc l us e u (by simpa using h)
    simp [editsC, this]
theorem editsC_get : ∀ (l : List Edit) (us : List Value) (i : Nat) (h : i < l.length) (h' : i < us.length),
    (editsC l us)[i * 3]? = some (.int .i64 l[i].pos) ∧ (editsC l us)[i * 3 + 1]? = some (.int .i64 l[i].del) ∧ (editsC l us)[i * 3 + 2]? = some us[i]
  | [], _, _, h, _ => by simp at h
  | _ :: _, [], _, _, h' => by simp at h'
  | a :: l, b :: us, 0, _, _ => by simp [editsC, editC]
  | a :: l, b :: us, i + 1, h, h' => by
    have := editsC_get l us i (by simpa using h) (by simpa using h')
    have e : (i + 1) * 3 = i * 3 + 1 + 1 + 1 := by omega
    simpa [editsC, editC, e] using this
/-- A slice of edits: the cells, and each inserted text in its own slice. -/
def EditsAt (w : World) (v : Value) (l : List Edit) : Prop :=
  ∃ us : List Value, us.length = l.length ∧ Rd w (· = 36) 3 v l.length (editsC l us) ∧ ∀ i (h : i < l.length) (h' : i < us.length), SymsAt w us[i] l[i].ins
theorem EditsAt.keeps {w w' : World} {v : Value} {l : List Edit} {T : TypeId → Prop} (h : EditsAt w v l) (hk : Keeps T w w') (h1 : T 34) (h2 : T 36) : EditsAt w' v l := by
  obtain ⟨us, hl, hr, hs⟩ := h
  exact ⟨us, hl, hr.keeps (hk.mono (by rintro t rfl; exact h2)), fun i a b => (hs i a b).keeps hk h1⟩
theorem EditsAt.below {w w' : World} {v : Value} {l : List Edit} (h : EditsAt w v l) (hb : Below w.heap.size w w') : EditsAt w' v l :=
  h.keeps (Keeps.below (fun _ => True) hb) trivial trivial
theorem EditsAt.nil (w : World) : EditsAt w (.slice none 0 0) [] := ⟨[], rfl, Rd.nil _ _ _, fun _ h => by simp at h⟩
theorem EditsAt.form {w : World} {v : Value} {l : List Edit} (h : EditsAt w v l) : ∃ a cap, v = .slice a l.length cap ∧ l.length ≤ cap ∧ cap ≤ maxLen := by
  obtain ⟨_, _, hr, _⟩ := h
  exact hr.form
theorem EditsAt.at {w : World} {a : Option Addr} {c : Nat} {l : List Edit} (h : EditsAt w (.slice a l.length c) l) {k : Nat} (hk : k < l.length) :
    ∃ b off u, a = some ⟨b, off, none⟩ ∧ b < w.heap.size ∧ w.cell? ⟨b, off + k * 3, none⟩ = some (.int .i64 l[k].pos) ∧ w.cell? ⟨b, off + k * 3 + 1, none⟩ = some (.int .i64 l[k].del) ∧
      w.cell? ⟨b, off + k * 3 + 2, none⟩ = some u ∧ SymsAt w u l[k].ins := by
  obtain ⟨us, hl, hr, hs⟩ := h
  obtain ⟨b, off, e, hb, hc⟩ := hr.at (by omega)
  have := editsC_get l us k hk (by omega)
  exact ⟨b, off, us[k], e, hb, hc _ _ this.1, hc (k * 3 + 1) _ this.2.1, hc (k * 3 + 2) _ this.2.2, hs k hk (by omega)⟩
theorem slSyms : SlT Try.prog 23 34 (.agg #[.int .i64 0, .int .u8 0]) 2 16 := ⟨by kernel_rfl, by kernel_rfl, rfl, by decide⟩
theorem slInts : SlT Try.prog 22 3 (.int .i64 0) 1 8 := ⟨by kernel_rfl, by kernel_rfl, rfl, by decide⟩
theorem slEdits : SlT Try.prog 25 36 (.agg #[.int .i64 0, .int .i64 0, .slice none 0 0]) 3 40 := ⟨by kernel_rfl, by kernel_rfl, rfl, by decide⟩
theorem fields_sym : (Try.prog.fieldsOf 34).toList.map (fun f => (f.name == "_", f.type, f.offset)) = [(false, 3, 0), (false, 5, 1)] := by kernel_rfl
theorem run_eqIn_sym (d : Nat) (x1 x2 y1 y2 : Int) (w : World) : (Op.equalIn (d + 2) 34 (.agg #[.int .i64 x1, .int .u8 x2]) (.agg #[.int .i64 y1, .int .u8 y2])).run Try.prog w = .ok ((x1 == y1) && (x2 == y2)) w := by
  rw [show d + 2 = (d + 1) + 1 from rfl, run_equalIn_struct w (d + 1) 34 _ _ (by kernel_rfl) (by kernel_rfl)]
  have hf := fields_sym
  generalize (Try.prog.fieldsOf 34).toList = L at hf ⊢
  obtain ⟨f0, f1, rfl⟩ : ∃ f0 f1, L = [f0, f1] := by
    have hl := congrArg List.length hf
    simp only [List.length_map, List.length_cons, List.length_nil] at hl
    match L, hl with
    | [f0, f1], _ => exact ⟨f0, f1, rfl⟩
  simp only [List.map_cons, List.map_nil, List.cons.injEq, Prod.mk.injEq, beq_eq_false_iff_ne, ne_eq, and_true] at hf
  obtain ⟨⟨n0, t0, o0⟩, n1, t1, o1⟩ := hf
  simp only [Op.eqFields, n0, n1, t0, t1, o0, o1, ne_eq, not_false_eq_true, if_true, Sem.run_bind]
  have p0 : ∀ (a b : Int) (w : World), (part 3 #[.int .i64 a, .int .u8 b] 0).run Try.prog w = .ok (.int .i64 a) w := fun _ _ _ => by kernel_rfl
  have p1 : ∀ (a b : Int) (w : World), (part 5 #[.int .i64 a, .int .u8 b] 1).run Try.prog w = .ok (.int .u8 b) w := fun _ _ _ => by kernel_rfl
  have q1 := run_equalIn_int (P := Try.prog) w d 5 .u8 .u8 x2 y2 Try.underlying5
  simp only [p0, Result.andThen_ok, run_equalIn_int w d 3 .i64 .i64 x1 y1 Try.underlying3]
  by_cases h : x1 = y1
  · subst h
    by_cases h2 : x2 = y2
    · subst h2; simp [p1, q1]
    · have : (x2 == y2) = false := by simpa using h2
      simp [this, p1, q1]
  · have : (x1 == y1) = false := by simpa using h
    simp [this]
theorem run_eql_sym (x1 x2 y1 y2 : Int) (w : World) : (binOp .eql 34 (.agg #[.int .i64 x1, .int .u8 x2]) (.agg #[.int .i64 y1, .int .u8 y2])).run Try.prog w = .ok (.bool ((x1 == y1) && (x2 == y2))) w := by
  rw [run_eql_struct, show (10000 : Nat) = 9998 + 2 from rfl, run_eqIn_sym]; rfl
theorem run_neq_sym (x1 x2 y1 y2 : Int) (w : World) : (binOp .neq 34 (.agg #[.int .i64 x1, .int .u8 x2]) (.agg #[.int .i64 y1, .int .u8 y2])).run Try.prog w = .ok (.bool (!((x1 == y1) && (x2 == y2)))) w := by
  rw [run_neq_struct, show (10000 : Nat) = 9998 + 2 from rfl, run_eqIn_sym]; rfl
theorem run_guard_sym (op : BinOp) (x y : Operand) (xs ys : Array Value) (w : World) : (eqGuard op 34 x y (.agg xs) (.agg ys)).run Try.prog w = .ok () w :=
  run_eqGuard_agg w op 34 x y xs ys (by kernel_rfl)
end Go.Proofs.Ythdafajhohdkoaa
