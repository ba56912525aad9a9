/- Contract of package merge: Move; its plain words. -/
import Derived.Test.YthdafajhohdkoaaMgN
namespace Go.Proofs.Ythdafajhohdkoaa
open Go.RowKit Go.Lab Go.Shelf
attribute [local go_sem] Oper.semAt_some
set_option maxRecDepth 100000 in
set_option maxHeartbeats 1000000 in
/-- A copy of a text, in a row of its own. -/
theorem cloneS_any (v : Value) (l : List Sym) (w : World) (h : SymsAt w v l) (hl : l.length ≤ 1048576) :
    Calls Try.prog 44 #[v] w fun e w' => ∃ u, e = .returned u ∧ w'.ownsRow w.heap.size 34 2 u l.length (symsC l) ∧ Below w.heap.size w w' := by
  have hone := symsC_one l
  have hq : ∀ (W : World) (a : Option Addr) (n c n' c' : Nat), (binOp .eql 23 (.slice a n c) (.slice none n' c')).run Try.prog W = .ok (.bool a.isNone) W := fun W a n c n' c' => Lib.run_eql_slice_nil W 23 34 a n c n' c' Try.underlying23
  obtain ⟨a, c, rfl, hc1, hc2⟩ := h.form
  unfold maxLen at hc2
  cases a with
  | none =>
    have h0 : l = [] := by
      obtain ⟨_, a, cap, e, _, _, h0, _⟩ := h
      injection e with e1 e2 e3
      subst e1 e3
      have := h0 rfl
      exact List.eq_nil_of_length_eq_zero (by omega)
    subst h0
    go_enter Try.func44, Try.ntmps44
    go_wp2
    go_ret
    exact ⟨_, rfl, World.ownsRow_nil _ _ _ _, Below.refl _ _⟩
  | some ad =>
    have hrd := h.below ((Below.refl _ w).alloc (Nat.le_refl _) (.cells #[] 34))
    have hrow := World.ownsRow_made (base := w.heap.size) (e := 34) (size := 2) w #[] 0 (Nat.le_refl _) (by decide) (by simp)
    clear h
    go_enter Try.func44, Try.ntmps44
    go_wp2_with (at_builtin; refine wpList_append_rd _ rfl (.tmp 5) (.tmp 6) rfl slSyms w.heap.size (.slice (some ⟨w.heap.size, 0, none⟩) 0 0) 0 [] rfl hrow _ _ _ _ rfl hrd hone (by unfold maxLen; omega) (by omega) (by simp) ?_; intro v1 w1 hown hgr _ _)
    go_ret
    exact ⟨_, rfl, by simpa using hown, ((Below.refl _ w).alloc (Nat.le_refl _) _).grown hgr (by simp) (by intro k hk; simp [Value.ownBlock] at hk; omega)⟩
/-- By how much a place moves. -/
def offE (p : Int) : List Edit → Int
  | [] => 0
  | y :: l => (if y.pos + y.del < p then (y.ins.length : Int) - y.del else 0) + offE p l
theorem offE_snoc (p : Int) (y : Edit) : ∀ l, offE p (l ++ [y]) = offE p l + (if y.pos + y.del < p then (y.ins.length : Int) - y.del else 0)
  | [] => by simp [offE]
  | z :: l => by
    rw [List.cons_append, offE, offE_snoc p y l, offE]
    omega
def shiftE (b : List Edit) (x : Edit) : Edit := ⟨x.pos + offE x.pos b, x.del, x.ins⟩
def moveZ (a b : List Edit) : List Edit × Int :=
  if (validZ 2048 a && validZ 2048 b) = false then ([], 1) else if clashP a b ≠ [] then ([], 18) else ((a.filter fun x => !memB b x).map (shiftE b), 0)
/-- The boxes of the two results. -/
structure VBox (w : World) (vo : Value) (er : Int) (W : World) : Prop where
  b4 : Boxed W w.heap.size 25 vo
  b5 : Boxed W (w.heap.size + 1) 39 (.int .i64 er)
  bw : Below w.heap.size w W
theorem VBox.step {w W W' : World} {vo : Value} {er : Int} (h : VBox w vo er W) (hb : Below W.heap.size W W') : VBox w vo er W' := ⟨boxed_step h.b4 hb, boxed_step h.b5 hb, h.bw.trans (hb.mono h.bw.size)⟩
theorem VBox.start (w : World) : VBox w (.slice none 0 0) 0 ((w.alloc (.cells #[.slice none 0 0] 25)).alloc (.cells #[.int .i64 0] 39)) := by
  refine ⟨(Boxed.new w _ _).alloc _, ?_, ((Below.refl _ w).alloc (Nat.le_refl _) _).alloc (by simp) _⟩
  have := Boxed.new (w.alloc (.cells #[.slice none 0 0] 25)) 39 (.int .i64 0)
  rwa [World.size_alloc] at this
theorem VBox.own {w A B : World} {vo : Value} {er : Int} {row : Option Nat} (h : VBox w vo er A) (hg : A.grownBy B row) {n : Nat} (hn : w.heap.size ≤ n) (hr : ∀ r, row = some r → n ≤ r ∧ ∃ o : Obj, A.heap[r]? = some o ∧ o.isCells = false) : VBox w vo er B :=
  ⟨boxed_own0 h.b4 hg (fun r e => (hr r e).2), boxed_own0 h.b5 hg (fun r e => (hr r e).2), h.bw.grown hg h.bw.size (fun k e => Nat.le_trans hn (hr k e).1)⟩
theorem VBox.put {w W : World} {v0 : Value} {e0 : Int} (h : VBox w v0 e0 W) (vo : Value) (er : Int) :
    VBox w vo er ((W.setCell ⟨w.heap.size, 0, none⟩ vo).setCell ⟨w.heap.size + 1, 0, none⟩ (.int .i64 er)) ∧ KeepsOthers W ((W.setCell ⟨w.heap.size, 0, none⟩ vo).setCell ⟨w.heap.size + 1, 0, none⟩ (.int .i64 er)) := by
  refine ⟨⟨(h.b4.set _).other (by omega) _, (h.b5.other (by omega) _).set _, (h.bw.setCell (p := ⟨w.heap.size, 0, none⟩) (Nat.le_refl _) _).setCell (p := ⟨w.heap.size + 1, 0, none⟩) (by simp) _⟩, (KeepsOthers.setCell _ _ _).trans (KeepsOthers.setCell _ _ _)⟩
theorem results_cells2 {fn : Func} {p q : Tmp} {t1 t2 : TypeId} (h : fn.results = #[.cell p t1, .cell q t2]) (tmps : Array Value) (P : Program) (w : World) {b1 b2 : Addr} {v1 v2 : Value}
    (e1 : tmps.getD p undef = .pointer (some b1)) (e2 : tmps.getD q undef = .pointer (some b2))
    (l1 : (loadVar t1 b1).run P w = .ok v1 w) (l2 : (loadVar t2 b2).run P w = .ok v2 w) :
    (results fn tmps).run P w = .ok (.tuple #[v1, v2]) w := by
  have e1' : tmps[p]?.getD undef = .pointer (some b1) := by simpa using e1
  have e2' : tmps[q]?.getD undef = .pointer (some b2) := by simpa using e2
  simp only [results, h]
  simp [Sem.run_bind, Result.andThen, e1', e2', l1, l2, asAddr]
/-- A row of edits of the call's own, with texts. -/
def OwnEv (W : World) (base : Nat) (v : Value) (l : List EV) : Prop := W.ownsRow base 36 3 v l.length (evC l) ∧ ∀ x ∈ l, SymsAt W x.2 x.1.ins
theorem OwnEv.at {W : World} {base : Nat} {v : Value} {l : List EV} (h : OwnEv W base v l) : EvAt W v l := ⟨Rd.of_own h.1, h.2⟩
theorem OwnEv.below {W W' : World} {base : Nat} {v : Value} {l : List EV} (h : OwnEv W base v l) (hb : Below W.heap.size W W') : OwnEv W' base v l := ⟨ownR_below0 h.1 hb, fun x hx => (h.2 x hx).below hb⟩
theorem OwnEv.snoc {W W' : World} {base : Nat} {v v' : Value} {l : List EV} {x : EV} (h : OwnEv W base v l) (hx : SymsAt W x.2 x.1.ins) (ho : W'.ownsRow base 36 3 v' (l.length + 1) (evC l ++ evC [x])) (hg : W.grownBy W' v.ownBlock) : OwnEv W' base v' (l ++ [x]) := by
  have hk : Keeps (fun t => t ≠ 36) W W' := Keeps.grown h.1 hg (fun t ht => ht)
  refine ⟨by rw [evC_append, List.length_append]; exact ho, fun y hy => ?_⟩
  rcases List.mem_append.1 hy with hy | hy
  · exact (h.2 y hy).keeps hk (by decide)
  · simp at hy
    subst hy
    exact hx.keeps hk (by decide)
def MovedR (w : World) (a b : List Edit) (e : Ending) (w' : World) : Prop :=
  ∃ v, e = .returned (.tuple #[v, .int .i64 (moveZ a b).2]) ∧ EditsAt w' v (moveZ a b).1 ∧ Below w.heap.size w w'
end Go.Proofs.Ythdafajhohdkoaa
