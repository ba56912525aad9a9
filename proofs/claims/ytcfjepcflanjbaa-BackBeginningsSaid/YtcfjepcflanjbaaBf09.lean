/- Plain steps over text (Next, Steps); contract: slices.Clone over bytes. -/
import Derived.Test.YtcfjepcflanjbaaBf08
import Derived.Test.YtcfjepcflanjbaaBf05
import Derived.Deep.MidRow
import Derived.Deep.WholeRow
namespace Go.Proofs.Ytcfjepcflanjbaa
open Go.RowKit Go.Lab Go.Shelf
theorem slByt : SlT Try.prog 23 5 (.int .u8 0) 1 1 := ⟨by kernel_rfl, by kernel_rfl, rfl, by decide⟩
theorem fresh_byts (w : World) : (w.alloc (.cells #[] 5)).ownsRow w.heap.size 5 1 (.slice (some ⟨w.heap.size, 0, none⟩) 0 0) 0 [] := World.ownsRow_lit w #[] 0 (Nat.le_refl _) (by decide) rfl
set_option maxHeartbeats 1000000 in
theorem cloneBy_any (v : Value) (l : List Int) (w : World) (h : BysAt w v l) (hn : l.length ≤ 1000000) (h1 : 1 ≤ l.length) :
    Calls Try.prog 62 #[v] w fun e w' => ∃ v', e = .returned v' ∧ w'.ownsRow w.heap.size 5 1 v' l.length (byC l) ∧ Below w.heap.size w w' := by
  obtain ⟨a, c, rfl, hc1, hc2⟩ := h.1.form
  obtain ⟨b, off, rfl, -, -⟩ := h.at (show 0 < l.length by omega)
  have hq : ∀ (W : World) (a : Option Addr) (n c n' c' : Nat), (binOp .eql 23 (.slice a n c) (.slice none n' c')).run Try.prog W = .ok (.bool a.isNone) W := fun W a n c n' c' => Lib.run_eql_slice_nil W _ _ a n c n' c' slByt.und
  have hone := byC_one l
  have hx0 : Below w.heap.size w (w.alloc (.cells #[] 5)) := (Below.refl _ _).alloc (Nat.le_refl _) _
  have hr2 := h.1.below hx0
  have hfr := fresh_byts w
  have HX := hidep hx0
  unfold maxLen at hc2
  clear hx0 h
  generalize byC l = cs at hr2 hone ⊢
  generalize l.length = n at hr2 hc1 hn h1 ⊢
  go_enter Try.func62, Try.ntmps62
  go_wp2_with (at_builtin; go_loud (refine wpList_append_rd _ rfl _ _ rfl slByt w.heap.size (.slice (some ⟨w.heap.size, 0, none⟩) 0 0) 0 [] rfl hfr _ _ _ _ rfl hr2 hone (by unfold maxLen; omega) (by omega) (by simp) ?_; intro v1 w1 hown hgr hat hnl; clear hat hnl; simp only [Nat.zero_add, List.nil_append] at hown))
  go_ret
  exact ⟨_, rfl, hown, HX.out.grown hgr (by simp) (by intro k hk; simp [Value.ownBlock] at hk; omega)⟩
/-! ### plain -/
/-- A state: the language, inside a number, inside a word. -/
structure StZ where
  lang : Int
  num : Bool
  word : Bool
  deriving DecidableEq
structure StpZ where
  st : StZ
  n : Nat
  cells : List Int
  rule : Int
  deriving DecidableEq
def leadZ (T : TabZ) (st : StZ) (c : Int) : List Int := (if st.num = true ∧ letB c = true then T.en else []) ++ (if capB c = true then T.cp else [])
def ruleSteps (lang : Int) (wd : Bool) (lead : List Int) (l : List Sym) (i : Nat) : List RuleZ → Nat → List StpZ
  | [], _ => []
  | r :: rs, k => (if fitsB r l i = true then [⟨⟨lang, false, wd⟩, r.text.size, lead ++ r.cells, k⟩] else []) ++ ruleSteps lang wd lead l i rs (k + 1)
/-- The steps from a place. -/
def nextZ (T : TabZ) (st : StZ) (l : List Sym) (i : Nat) : List StpZ :=
  if (symAt l i).lang ≠ st.lang then [⟨⟨(symAt l i).lang, false, false⟩, 0, T.sw, -1⟩]
  else if digB (symAt l i).c = true then [⟨⟨(symAt l i).lang, true, false⟩, 1, (if st.num = true then [] else T.nm) ++ [T.dg.getD ((symAt l i).c - 48).toNat 0], -1⟩]
  else ruleSteps (symAt l i).lang (letB (symAt l i).c) (leadZ T st (symAt l i).c) l i (T.rules (symAt l i).lang) 0
end Go.Proofs.Ytcfjepcflanjbaa
/- Rows of steps with cells of their own; the loop of Next. -/
namespace Go.Proofs.Ytcfjepcflanjbaa
open Go.RowKit Go.Lab Go.Shelf
def stepC (x : StpZ) (u : Value) : List Value := [.int .i64 x.st.lang, .bool x.st.num, .bool x.st.word, .int .i64 (x.n : Nat), u, .int .i64 x.rule]
def stepsC : List StpZ → List Value → List Value
  | r :: l, u :: us => stepC r u ++ stepsC l us
  | _, _ => []
theorem stepsC_len : ∀ (l : List StpZ) (us : List Value), us.length = l.length → (stepsC l us).length = l.length * 6
  | [], [], _ => rfl
  | [], _ :: _, h => by simp at h
  | _ :: _, [], h => by simp at h
  | a :: l, b :: us, h => by
    rw [stepsC, List.length_append, stepsC_len l us (by simpa using h)]
    simp [stepC]; omega
theorem stepsC_snoc : ∀ (l : List StpZ) (us : List Value) (r : StpZ) (u : Value), us.length = l.length → stepsC (l ++ [r]) (us ++ [u]) = stepsC l us ++ stepC r u
  | [], [], r, u, _ => by simp [stepsC]
  | [], _ :: _, _, _, h => by simp at h
  | _ :: _, [], _, _, h => by simp at h
  | a :: l, b :: us, r, u, h => by
    have := stepsC_snoc l us r u (by simpa using h)
    simp [stepsC, this]
/-- Steps in a row of their own above base, with their cells. -/
def StepsOwn (ty : TypeId) (base : Nat) (w : World) (v : Value) (l : List StpZ) : Prop :=
  ∃ us : List Value, us.length = l.length ∧ w.ownsRow base ty 6 v l.length (stepsC l us) ∧ ∀ i (h : i < l.length) (h' : i < us.length), BysAt w us[i] l[i].cells
theorem BysAt.of_own {w : World} {base : Nat} {e : TypeId} {v : Value} {l : List Int} (h : w.ownsRow base e 1 v l.length (byC l)) (hr : ∀ x ∈ l, 0 ≤ x ∧ x < 256) : BysAt w v l := ⟨(Rd.of_own h).mono (fun _ _ => trivial), hr⟩
theorem StepsOwn.one {ty : TypeId} {base : Nat} {X : World} (s : StpZ) (u : Value) (hb : base ≤ X.heap.size) (hu : BysAt X u s.cells) :
    StepsOwn ty base (X.alloc (.cells (stepC s u).toArray ty)) (.slice (some ⟨X.heap.size, 0, none⟩) 1 1) [s] := by
  refine ⟨[u], rfl, ?_, ?_⟩
  · have h := World.ownsRow_lit X (stepC s u).toArray (e := ty) (size := 6) 1 hb (by decide) rfl
    simpa [stepsC] using h
  · intro i h h'
    have hi : i = 0 := by simpa using h
    subst hi
    exact hu.below ((Below.refl _ _).alloc (Nat.le_refl _) _)
theorem ownsRow_below {B : Nat} {e : TypeId} {k : Nat} {v : Value} {n : Nat} {xs : List Value} {w w' : World} (h : w.ownsRow B e k v n xs) (hb : Below w.heap.size w w') : w'.ownsRow B e k v n xs := by
  refine ⟨h.1, ?_⟩
  rcases h.2 with h | ⟨g, cap, cur, rfl, hb0, hg, rest⟩
  · exact .inl h
  · exact .inr ⟨g, cap, cur, rfl, hb0, (hb.block _ (lt_of_block hg)).trans hg, rest⟩
theorem ownsRow_lower {B B' : Nat} {e : TypeId} {k : Nat} {v : Value} {n : Nat} {xs : List Value} {w : World} (h : w.ownsRow B e k v n xs) (hb : B' ≤ B) : w.ownsRow B' e k v n xs := by
  refine ⟨h.1, ?_⟩
  rcases h.2 with h | ⟨g, cap, cur, h1, hb0, rest⟩
  · exact .inl h
  · exact .inr ⟨g, cap, cur, h1, Nat.le_trans hb hb0, rest⟩
/-- Steps in a row of their own, each with cells in a block of bytes. -/
def StepsT (ty : TypeId) (base : Nat) (w : World) (v : Value) (l : List StpZ) : Prop :=
  ∃ us : List Value, us.length = l.length ∧ w.ownsRow base ty 6 v l.length (stepsC l us) ∧ ∀ i (h : i < l.length) (h' : i < us.length), Rd w (· = 5) 1 us[i] l[i].cells.length (byC l[i].cells) ∧ ∀ x ∈ l[i].cells, 0 ≤ x ∧ x < 256
theorem StepsT.below {ty : TypeId} {base : Nat} {w w' : World} {v : Value} {l : List StpZ} (h : StepsT ty base w v l) (hb : Below w.heap.size w w') : StepsT ty base w' v l := by
  obtain ⟨us, h1, h2, h3⟩ := h
  exact ⟨us, h1, ownsRow_below h2 hb, fun i a b => ⟨(h3 i a b).1.below hb, (h3 i a b).2⟩⟩
theorem StepsT.nil (ty : TypeId) (base : Nat) (w : World) : StepsT ty base w (.slice none 0 0) [] := ⟨[], rfl, World.ownsRow_nil _ _ _ _, fun i h => by simp at h⟩
theorem StepsT.own {ty : TypeId} {base base' : Nat} {w : World} {v : Value} {l : List StpZ} (h : StepsT ty base w v l) (hb : base' ≤ base) : StepsOwn ty base' w v l := by
  obtain ⟨us, h1, h2, h3⟩ := h
  exact ⟨us, h1, ownsRow_lower h2 hb, fun i a b => ⟨(h3 i a b).1.mono (fun _ _ => trivial), (h3 i a b).2⟩⟩
/-- A step more. -/
theorem StepsT.push {ty : TypeId} {base : Nat} {w w' : World} {v v' : Value} {l : List StpZ} {us : List Value} {s : StpZ} {u : Value} (hty : ty ≠ 5)
    (h1 : us.length = l.length) (h2 : w.ownsRow base ty 6 v l.length (stepsC l us)) (h3 : ∀ i (h : i < l.length) (h' : i < us.length), Rd w (· = 5) 1 us[i] l[i].cells.length (byC l[i].cells) ∧ ∀ x ∈ l[i].cells, 0 ≤ x ∧ x < 256)
    (hu : Rd w (· = 5) 1 u s.cells.length (byC s.cells)) (hr : ∀ x ∈ s.cells, 0 ≤ x ∧ x < 256)
    (ho : w'.ownsRow base ty 6 v' (l.length + 1) (stepsC l us ++ stepC s u)) (hg : w.grownBy w' v.ownBlock) : StepsT ty base w' v' (l ++ [s]) := by
  have hk : Keeps (· = 5) w w' := Keeps.grown h2 hg (fun t ht => by subst ht; exact fun e => hty e.symm)
  refine ⟨us ++ [u], by simp [h1], ?_, ?_⟩
  · rw [stepsC_snoc _ _ _ _ h1, List.length_append]
    exact ho
  · intro i a b
    by_cases hi : i < l.length
    · have hi' : i < us.length := by omega
      rw [List.getElem_append_left hi', List.getElem_append_left hi]
      exact ⟨(h3 i hi hi').1.keeps hk, (h3 i hi hi').2⟩
    · have e1 : i = l.length := by simp at a; omega
      subst e1
      rw [List.getElem_append_right (by omega), List.getElem_append_right (by omega)]
      simp only [Nat.sub_self, h1, List.getElem_cons_zero]
      exact ⟨hu.keeps hk, hr⟩
theorem ruleSteps_snoc (lang : Int) (wd : Bool) (lead : List Int) (l : List Sym) (i : Nat) : ∀ (rs : List RuleZ) (r : RuleZ) (k : Nat),
    ruleSteps lang wd lead l i (rs ++ [r]) k = ruleSteps lang wd lead l i rs k ++ (if fitsB r l i = true then [⟨⟨lang, false, wd⟩, r.text.size, lead ++ r.cells, ((k + rs.length : Nat) : Int)⟩] else [])
  | [], r, k => by simp [ruleSteps]
  | a :: rs, r, k => by
    rw [List.cons_append, ruleSteps, ruleSteps_snoc lang wd lead l i rs r (k + 1), ruleSteps, List.append_assoc, List.length_cons, show k + 1 + rs.length = k + (rs.length + 1) from by omega]
theorem ruleSteps_take (lang : Int) (wd : Bool) (lead : List Int) (l : List Sym) (i : Nat) (rs : List RuleZ) (k : Nat) (h : k < rs.length) :
    ruleSteps lang wd lead l i (rs.take (k + 1)) 0 = ruleSteps lang wd lead l i (rs.take k) 0 ++ (if fitsB rs[k] l i = true then [⟨⟨lang, false, wd⟩, rs[k].text.size, lead ++ rs[k].cells, (k : Int)⟩] else []) := by
  rw [List.take_succ_eq_append_getElem h, ruleSteps_snoc, List.length_take, Nat.zero_add, Nat.min_eq_left (by omega)]
theorem ruleSteps_len (lang : Int) (wd : Bool) (lead : List Int) (l : List Sym) (i : Nat) : ∀ (rs : List RuleZ) (k : Nat), (ruleSteps lang wd lead l i rs k).length ≤ rs.length
  | [], _ => by simp [ruleSteps]
  | a :: rs, k => by
    have := ruleSteps_len lang wd lead l i rs (k + 1)
    rw [ruleSteps, List.length_append, List.length_cons]
    split <;> simp <;> omega
theorem valid_right {T : TabZ} (hv : validE T = 0) : T.l0.all rightB = true ∧ T.l1.all rightB = true := by
  unfold validE at hv
  split at hv
  · cases hv
  · split at hv
    · cases hv
    · rename_i h2
      rw [Bool.not_eq_false, Bool.and_eq_true, Bool.and_eq_true] at h2
      exact ⟨h2.1, h2.2.1⟩
theorem right_cells {r : RuleZ} (h : rightB r = true) : 1 ≤ r.text.size ∧ r.text.size ≤ 8 ∧ r.cells.length ≤ 4 := by
  unfold rightB cellsB at h
  simp only [Bool.and_eq_true, decide_eq_true_eq] at h
  omega
theorem valid_rule {T : TabZ} (hv : validE T = 0) {k : Nat} (hk : k < 2) : ∀ r ∈ (if k = 0 then T.l0 else T.l1), 1 ≤ r.text.size ∧ r.text.size ≤ 8 ∧ r.cells.length ≤ 4 := by
  intro r hr
  have h := valid_right hv
  rcases (by omega : k = 0 ∨ k = 1) with rfl | rfl
  · exact right_cells (List.all_eq_true.1 h.1 r hr)
  · exact right_cells (List.all_eq_true.1 h.2 r hr)
end Go.Proofs.Ytcfjepcflanjbaa
/- Plain words: explicit steps of a plain region, whole variables, joins. No program in sight. -/
namespace Go.Proofs.Ytcfjepcflanjbaa
open Go.RowKit Go.Lab
theorem wpList_value {P : Program} {w w' : World} {ops : Array Oper} {rest : List Oper} {o : Oper} {a : Act} {Q : Exit → Act → World → Prop} {v : Value} (hgd : o.guard = none) (hr : (execOp a.eval o).run P w = .ok (.value v) w') (h : wpList P ops Q rest (a.put o.dst v) w') : wpList P ops Q (o :: rest) a w := by
  refine wpList_plain hgd fun K hK => ?_
  unfold Oper.wp
  rw [hr]
  exact hK _ _ h
theorem wpList_enter {P : Program} {w : World} {ops : Array Oper} {rest : List Oper} {o : Oper} {a : Act} {Q : Exit → Act → World → Prop} (hg : o.guard = none) (f : FuncId) (args : Array Value) (hrun : (execOp a.eval o).run P w = .ok (.enter f args) w) {V : Value} {R : World → Prop}
    (hc : Calls P f args w fun e w'' => e = .returned V ∧ R w'') (h : ∀ w'', R w'' → wpList P ops Q rest (a.put o.dst V) w'') : wpList P ops Q (o :: rest) a w := by
  refine wpList_plain hg fun K hK => ?_
  unfold Oper.wp
  rw [hrun, Oper.upon_enter]
  refine hc.mono fun e w'' hh => ?_
  obtain ⟨rfl, hR⟩ := hh
  exact hK _ _ (h _ hR)
/-- A whole variable is stored. -/
theorem wpList_store_to {P : Program} {w : World} {ops : Array Oper} {rest : List Oper} {op : Oper} {a : Act} {Q : Exit → Act → World → Prop} (hgd : op.guard = none) (ty : TypeId) (x y : Operand) (ho : op.op = .store ty x y)
    (b o : Nat) (cells : Array Value) (hx : a.eval x = .pointer (some ⟨b, o, none⟩)) (hy : a.eval y = .agg cells)
    (ht : w.there b o cells.size) (hi : (P.info? ty).map (·.size) = some cells.size) (h1 : cells.all (·.oneCell') = true) (W2 : World) (hW : w.setCells b o cells.toList = W2)
    (h : wpList P ops Q rest (a.put op.dst undef) W2) : wpList P ops Q (op :: rest) a w := by
  subst hW
  exact wpList_store_mid hgd ty x y ho b o cells hx hy ht hi h1 h
/-- A variable of a type that takes a row, made anew. -/
theorem wpList_alloc_row {P : Program} {t : TypeId} {Z : Array Value} (hz : ∀ w, (zeroValue t).run P w = .ok (.agg Z) w) (w : World) {ops : Array Oper} {rest : List Oper} {o : Oper} {a : Act} {Q : Exit → Act → World → Prop} (hgd : o.guard = none) (ho : o.op = .alloc t)
    (h : wpList P ops Q rest (a.put o.dst (.pointer (some ⟨w.heap.size, 0, none⟩))) (w.alloc (.cells Z t))) : wpList P ops Q (o :: rest) a w := by
  refine wpList_plain hgd fun K hK => ?_
  unfold Oper.wp execOp
  simp [ho, Instr.alloc, hz, newVar, newRow, Value.cells, Result.andThen]
  exact hK _ _ h
/-- A whole row into the block that was made last. -/
theorem wpList_store_last {P : Program} {t : TypeId} {c c' : Array Value} (w : World) (hi : (P.info? t).map (·.size) = some c'.size) (hsz : c.size = c'.size) (h1 : c'.all (·.oneCell') = true) {ops : Array Oper} {rest : List Oper} {o : Oper} {a : Act} {Q : Exit → Act → World → Prop} (hgd : o.guard = none) (x y : Operand) (ho : o.op = .store t x y)
    (hx : a.eval x = .pointer (some ⟨w.heap.size, 0, none⟩)) (hy : a.eval y = .agg c') (h : wpList P ops Q rest (a.put o.dst undef) (w.alloc (.cells c' t))) : wpList P ops Q (o :: rest) a (w.alloc (.cells c t)) := by
  refine wpList_plain hgd fun K hK => ?_
  unfold Oper.wp execOp
  simp only [ho, hx, hy, Sem.run_bind, Sem.run_pure, run_storeAt_new w t c c' hi hsz h1, Result.andThen_ok]
  exact hK _ _ h
theorem range_of_arr {W : World} {b : Nat} {cs : List Value} {t : TypeId} {fz : Nat × Nat} (h : W.heap[b]? = some (.cells cs.toArray t fz)) : W.rangeAt b 0 cs := fun j v hv => by
  rw [Nat.zero_add]
  simp only [World.cell?, h]
  simpa using hv
theorem there_of_arr {W : World} {b n : Nat} {cs : Array Value} {t : TypeId} (h : W.heap[b]? = some (.cells cs t)) (hn : n ≤ cs.size) : W.there b 0 n := fun j hj => by
  constructor
  · have : j < cs.size := by omega
    simp [World.cell?, h, this]
  · simp [World.frozen?, h]
theorem rd_lit {X : World} {b : Nat} {e : TypeId} {cs : Array Value} (h : X.heap[b]? = some (.cells cs e)) : Rd X (· = e) cs.size (.slice (some ⟨b, 0, none⟩) 1 1) 1 cs.toList :=
  ⟨by simp, _, _, rfl, Nat.le_refl _, by unfold maxLen; omega, (fun e => by cases e), fun ad e _ => by
    injection e with e
    subst e
    exact ⟨rfl, _, _, _, rfl, h, fun j u hu => by simpa using hu⟩⟩
theorem rd_lits {X : World} {b n k : Nat} {e : TypeId} {cs : Array Value} (h : X.heap[b]? = some (.cells cs e)) (hn : cs.size = n * k) (hm : n ≤ maxLen) : Rd X (· = e) k (.slice (some ⟨b, 0, none⟩) n n) n cs.toList :=
  ⟨by simpa using hn, _, _, rfl, Nat.le_refl _, hm, (fun e => by cases e), fun ad e _ => by
    injection e with e
    subst e
    exact ⟨rfl, _, _, _, rfl, h, fun j u hu => by simpa using hu⟩⟩
theorem own_lits {X : World} {B g k n : Nat} {e : TypeId} {cs : Array Value} (hX : X.heap[g]? = some (.cells cs e)) (hB : B ≤ g) (hn : cs.size = n * k) (hm : n ≤ maxLen) : X.ownsRow B e k (.slice (some ⟨g, 0, none⟩) n n) n cs.toList :=
  ⟨by simpa using hn, .inr ⟨g, n, cs, rfl, hB, hX, Nat.le_refl _, hm, hn, by rw [← hn]; exact List.take_length⟩⟩
theorem below_set {B : Nat} {a w : World} (h : Below B a w) (ad : Addr) (v : Value) (hb : B ≤ ad.block) : Below B a (w.setCell ad v) :=
  h.trans ⟨rfl, rfl, rfl, by simp [World.setCell], fun k hk => Below.heap_setCell w ad v k (by omega)⟩
theorem below_setCells {B : Nat} {a : World} (b : Nat) (hb : B ≤ b) : ∀ (vs : List Value) (o : Nat) (w : World), Below B a w → Below B a (w.setCells b o vs)
  | [], _, _, h => h
  | v :: r, o, _, h => below_setCells b hb r (o + 1) _ (below_set h ⟨b, o, none⟩ v hb)
/-- Several orders of a statement whose exits are whatever they are: what holds behind it is shown once. -/
theorem wp_joinQ {P : Program} {c : Code} {Q : Exit → Act → World → Prop} {a : Act} {w : World} (M : Act → World → Prop) (h1 : ∀ Q' : Exit → Act → World → Prop, (∀ a w, M a w → Q' .normal a w) → c.wp P Q' a w) (h2 : ∀ a w, M a w → Q .normal a w) : c.wp P Q a w := h1 Q h2
theorem heap2 (w : World) (o0 o1 : Obj) : ((w.alloc o0).alloc o1).heap[w.heap.size]? = some o0 ∧ ((w.alloc o0).alloc o1).heap[w.heap.size + 1]? = some o1 := by
  refine ⟨below_push ((Below.refl _ _).alloc (Nat.le_refl _) _) (heap_alloc_new _ _), ?_⟩
  have h := heap_alloc_new (w.alloc o0) o1
  rw [World.size_alloc] at h
  exact h
theorem heap3 (w : World) (o0 o1 o2 : Obj) : (((w.alloc o0).alloc o1).alloc o2).heap[w.heap.size]? = some o0 ∧ (((w.alloc o0).alloc o1).alloc o2).heap[w.heap.size + 1]? = some o1 ∧ (((w.alloc o0).alloc o1).alloc o2).heap[w.heap.size + 2]? = some o2 := by
  refine ⟨below_push ((Below.refl _ _).alloc (Nat.le_refl _) _) (heap2 w o0 o1).1, below_push ((Below.refl _ _).alloc (Nat.le_refl _) _) (heap2 w o0 o1).2, ?_⟩
  have h := heap_alloc_new ((w.alloc o0).alloc o1) o2
  rw [World.size_alloc, World.size_alloc] at h
  exact h
end Go.Proofs.Ytcfjepcflanjbaa
