/- Words: a push in room and a push that moves, by the reading of what is pushed; what a chain of pushes leaves alone. -/
import Derived.ArgAppend
import Derived.Test.YthhjnafhpmgceaaBentA
namespace Go.Proofs.Ythhjnafhpmgceaa
open Go.RowKit Go.Lab
theorem wpList_push_room {P : Program} (w : World) {ops : Array Oper} {rest : List Oper} {o : Oper} {a : Act} {Q : Exit → Act → World → Prop} (hgd : o.guard = none) (s x : Operand) {t e : TypeId} {z : Value} {size bytes : Nat}
    (ho : o.op = .call { callee := .builtin .append, args := #[s, x], argTypes := #[t, t] }) (hT : SlT P t e z size bytes) (base g k cap : Nat) (xs : List Value) (hs : a.eval s = .slice (some ⟨g, 0, none⟩) k cap)
    (hown : w.ownsRow base e size (.slice (some ⟨g, 0, none⟩) k cap) k xs) (T : TypeId → Prop) (y : Value) (m : Nat) (news : List Value) (hx : a.eval x = y) (hr : Rd w T size y m news) (h1 : ∀ u ∈ news, u.oneCell' = true) (hm : 0 < m) (b1 : k + m ≤ cap)
    (h : ∀ w', w'.ownsRow base e size (.slice (some ⟨g, 0, none⟩) (k + m) cap) (k + m) (xs ++ news) → w.grownBy w' (some g) → wpList P ops Q rest (a.put o.dst (.slice (some ⟨g, 0, none⟩) (k + m) cap)) w') : wpList P ops Q (o :: rest) a w := by
  obtain ⟨ht, hinfo, hzs, hsz⟩ := hT
  obtain ⟨i, hi, hz, hsize, hby⟩ := info_parts hinfo
  obtain ⟨ay, cy, rfl, _, _⟩ := hr.form
  obtain ⟨b, off, rfl, _, hc⟩ := hr.at hm
  refine wpList_append_fits w hgd s x t ho base e i size ht hi hsize g k cap xs hs hown ⟨b, off, none⟩ m cy news hx hr.1 (fun j u hu => ?_) h1 b1 h
  have : (⟨b, off, none⟩ : Addr).add j = ⟨b, off + j, none⟩ := by unfold Addr.add; split <;> simp_all
  rw [this]
  exact hc j u hu
theorem wpList_push_new {P : Program} (w : World) {ops : Array Oper} {rest : List Oper} {o : Oper} {a : Act} {Q : Exit → Act → World → Prop} (hgd : o.guard = none) (s x : Operand) {t e : TypeId} {z : Value} {size bytes : Nat}
    (ho : o.op = .call { callee := .builtin .append, args := #[s, x], argTypes := #[t, t] }) (hT : SlT P t e z size bytes) (base k cap : Nat) (ao : Option Addr) (xs : List Value) (hs : a.eval s = .slice ao k cap)
    (hown : w.ownsRow base e size (.slice ao k cap) k xs) (T : TypeId → Prop) (y : Value) (m : Nat) (news : List Value) (hx : a.eval x = y) (hr : Rd w T size y m news) (h1 : ∀ u ∈ news, u.oneCell' = true) (hm : 0 < m) (hfull : cap < k + m)
    (h63 : k + m ≤ maxLen) (hbytes : (k + m) * bytes ≤ 140737488355328)
    (h : ∀ v' w', w'.ownsRow w.heap.size e size v' (k + m) (xs ++ news) → w.grownBy w' none → wpList P ops Q rest (a.put o.dst v') w') : wpList P ops Q (o :: rest) a w := by
  obtain ⟨ht, hinfo, hzs, hsz⟩ := hT
  obtain ⟨i, hi, hz, hsize, hby⟩ := info_parts hinfo
  obtain ⟨ay, cy, rfl, _, _⟩ := hr.form
  obtain ⟨b, off, rfl, _, hc⟩ := hr.at hm
  have hadd : ∀ (b off j : Nat), (⟨b, off, none⟩ : Addr).add j = ⟨b, off + j, none⟩ := fun b off j => by unfold Addr.add; split <;> simp_all
  refine wpList_append_grows w hgd s x t ho e i z size bytes ht hi hz hsize hby hzs hsz ao k cap xs hs (fun e0 => ?_) hown.1 (fun b0 e0 j u hu => ?_) ⟨b, off, none⟩ m cy news hx hr.1 (fun j u hu => by rw [hadd]; exact hc j u hu) h1 hfull h63 hbytes h
  · rcases hown.2 with ⟨h2, h3⟩ | ⟨g, c, cur, h2, _⟩
    · injection h2 with _ _ h4
      exact ⟨h3, h4⟩
    · rw [e0] at h2; injection h2 with h2; cases h2
  · rcases hown.2 with ⟨h2, h3⟩ | ⟨g, c, cur, h2, h3⟩
    · rw [e0] at h2; injection h2 with h2; cases h2
    · rw [e0] at h2 hown
      injection h2 with h2 _ h5
      injection h2 with h2
      subst h2
      rw [hadd, Nat.zero_add]
      have hj : j < k * size := by rw [← hown.1]; exact (List.getElem?_eq_some_iff.1 hu).1
      rw [hown.cellAt j hj, hu]
theorem spares_trans {u u1 : Value} {w w1 w2 : World} (h : Spares u w w1) (hf : ∀ x, (∀ g o s m cx, x = .slice (some ⟨g, o, s⟩) m cx → 0 < cx → g < w.heap.size) → FarFrom u x → FarFrom u1 x) (h1 : Spares u1 w1 w2) : Spares u w w2 := by
  refine ⟨fun x lx hx hfx => h1.1 x lx (h.1 x lx hx hfx) (hf x ?_ hfx), fun B x n xs hx hfx => h1.2 B x n xs (h.2 B x n xs hx hfx) (hf x ?_ hfx)⟩
  · rintro g o s m cx rfl h0
    obtain ⟨_, a, c, e, _, _, _, k5⟩ := hx
    injection e with e _ e2
    subst e e2
    obtain ⟨_, cur, t, fz, _, q3, _⟩ := k5 _ rfl h0
    exact Go.lt_of_block q3
  · rintro g o s m cx rfl h0
    exact (hx.lt g rfl).2
theorem spares_below {u : Value} {w w1 w2 : World} (h : Spares u w w1) (hb : Below w1.heap.size w1 w2) : Spares u w w2 :=
  ⟨fun x lx hx hf => (h.1 x lx hx hf).below hb, fun B x n xs hx hf => ownR_below (h.2 B x n xs hx hf) hb⟩
/-- A store into a row of another type. -/
theorem spares_store {u : Value} {w w1 : World} {g j : Nat} {cur : Array Value} {e : TypeId} (h : Spares u w w1) (hg : w1.heap[g]? = some (.cells cur e (0, 0))) (he : e ≠ 30) (v : Value) : Spares u w (w1.setCell ⟨g, j, none⟩ v) := by
  refine ⟨fun x lx hx hf => (h.1 x lx hx hf).keeps (Keeps.setCell (a := ⟨g, j, none⟩) hg (fun t (ht : t ≠ e) => ht) v) (fun e2 => he e2.symm), fun B x n xs hx hf => ownsRow_setCell_other (h.2 B x n xs hx hf) (fun e2 => ?_) v⟩
  rcases (h.2 B x n xs hx hf).2 with ⟨h3, _⟩ | ⟨g2, _, _, hv2, _, hh2, _⟩
  · rw [h3] at e2; simp [Value.ownBlock] at e2
  · rw [hv2] at e2
    simp [Value.ownBlock] at e2
    subst e2
    rw [hg] at hh2
    simp at hh2
    exact he hh2.2
/-- What has become of the row that is pushed into. -/
def ExtV (S : Nat) (u : Value) (n : Nat) (u' : Value) (n' : Nat) : Prop :=
  u' = .slice none 0 0 ∨ (∃ g c, u' = .slice (some ⟨g, 0, none⟩) n' c ∧ S ≤ g) ∨ ∃ g c, u = .slice (some ⟨g, 0, none⟩) n c ∧ u' = .slice (some ⟨g, 0, none⟩) n' c ∧ n ≤ n'
theorem ExtV.far {S n n' : Nat} {u u' : Value} (h : ExtV S u n u' n') : ∀ x, (∀ g o s m cx, x = .slice (some ⟨g, o, s⟩) m cx → 0 < cx → g < S) → FarFrom u x → FarFrom u' x := by
  intro x hlow hf g o s n2 c m cx e1 e2 h0
  rcases h with h | ⟨g1, c1, h, hS⟩ | ⟨g1, c1, h1, h2, hle⟩
  · rw [h] at e1; cases e1
  · rw [h] at e1
    injection e1 with e1 _ _
    injection e1 with e1
    injection e1 with e1 _ _
    have := hlow g o s m cx e2 h0
    omega
  · rw [h2] at e1
    injection e1 with e1 e3 _
    injection e1 with e1
    injection e1 with e1 _ _
    subst e1 e3
    have := hf g1 o s n c1 m cx h1 e2 h0
    exact ⟨this.1, by omega⟩
end Go.Proofs.Ythhjnafhpmgceaa
