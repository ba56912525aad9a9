/- Words: edits with the slice values of their texts, and rows of them; slices.IndexFunc, slices.ContainsFunc over edits. -/
import Derived.Test.YthdafajhohdkoaaMgB
import Derived.Test.YthdafajhohdkoaaRowAt
namespace Go.Proofs.Ythdafajhohdkoaa
open Go.RowKit Go.Lab
abbrev EV := Edit × Value
def evC (l : List EV) : List Value := l.flatMap fun x => editC x.1 x.2
theorem evC_append (a b : List EV) : evC (a ++ b) = evC a ++ evC b := by simp [evC]
theorem evC_cons (x : EV) (l : List EV) : evC (x :: l) = .int .i64 x.1.pos :: .int .i64 x.1.del :: x.2 :: evC l := rfl
theorem evC_len : ∀ (l : List EV), (evC l).length = l.length * 3
  | [] => rfl
  | x :: l => by
    have := evC_len l
    rw [evC_cons]
    simp only [List.length_cons, this]; omega
theorem evC_get : ∀ (l : List EV) (i : Nat) (h : i < l.length), (evC l)[i * 3]? = some (.int .i64 l[i].1.pos) ∧ (evC l)[i * 3 + 1]? = some (.int .i64 l[i].1.del) ∧ (evC l)[i * 3 + 2]? = some l[i].2
  | [], _, h => by simp at h
  | a :: l, 0, _ => by simp [evC_cons]
  | a :: l, i + 1, h => by
    have := evC_get l i (by simpa using h)
    have e : (i + 1) * 3 = i * 3 + 1 + 1 + 1 := by omega
    simpa [evC_cons, e] using this
theorem evC_take : ∀ (l : List EV) (i : Nat), (evC l).take (i * 3) = evC (l.take i)
  | l, 0 => by simp [evC]
  | [], i + 1 => by simp [evC]
  | a :: l, i + 1 => by
    have := evC_take l i
    have e : (i + 1) * 3 = i * 3 + 1 + 1 + 1 := by omega
    simpa [evC_cons, e] using this
theorem evC_set : ∀ (l : List EV) (i : Nat) (x : EV), i < l.length → (((evC l).set (i * 3) (.int .i64 x.1.pos)).set (i * 3 + 1) (.int .i64 x.1.del)).set (i * 3 + 2) x.2 = evC (l.set i x)
  | [], _, _, h => by simp at h
  | a :: l, 0, x, _ => by simp [evC_cons]
  | a :: l, i + 1, x, h => by
    have := evC_set l i x (by simpa using h)
    have e : (i + 1) * 3 = i * 3 + 1 + 1 + 1 := by omega
    simpa [evC_cons, e] using this
theorem evC_editsC : ∀ (l : List Edit) (us : List Value), us.length = l.length → evC (l.zip us) = editsC l us
  | [], [], _ => rfl
  | [], _ :: _, h => by simp at h
  | _ :: _, [], h => by simp at h
  | a :: l, b :: us, h => by
    have := evC_editsC l us (by simpa using h)
    rw [List.zip_cons_cons, evC_cons, this]
    rfl
theorem evC_one (w : World) (l : List EV) (h : ∀ x ∈ l, SymsAt w x.2 x.1.ins) : ∀ u ∈ evC l, u.oneCell' = true := by
  intro u hu
  obtain ⟨x, hx, hu⟩ := List.mem_flatMap.1 hu
  simp only [editC, List.mem_cons, List.not_mem_nil, or_false] at hu
  rcases hu with rfl | rfl | rfl
  · rfl
  · rfl
  · obtain ⟨a, c, e, _, _⟩ := (h x hx).form
    rw [e]; rfl
/-- A slice of edits whose texts have these values. -/
def EvAt (w : World) (v : Value) (l : List EV) : Prop := Rd w (· = 36) 3 v l.length (evC l) ∧ ∀ x ∈ l, SymsAt w x.2 x.1.ins
theorem EvAt.below {w w' : World} {v : Value} {l : List EV} (h : EvAt w v l) (hb : Below w.heap.size w w') : EvAt w' v l := ⟨h.1.below hb, fun x hx => (h.2 x hx).below hb⟩
theorem EvAt.keeps {w w' : World} {v : Value} {l : List EV} {T : TypeId → Prop} (h : EvAt w v l) (hk : Keeps T w w') (h1 : T 34) (h2 : T 36) : EvAt w' v l :=
  ⟨h.1.keeps (hk.mono (by rintro t rfl; exact h2)), fun x hx => (h.2 x hx).keeps hk h1⟩
theorem EvAt.form {w : World} {v : Value} {l : List EV} (h : EvAt w v l) : ∃ a cap, v = .slice a l.length cap ∧ l.length ≤ cap ∧ cap ≤ maxLen := h.1.form
theorem EditsAt.ev {w : World} {v : Value} {l : List Edit} (h : EditsAt w v l) : ∃ ev : List EV, ev.map (·.1) = l ∧ EvAt w v ev := by
  obtain ⟨us, hl, hr, hs⟩ := h
  refine ⟨l.zip us, ?_, ?_, fun x hx => ?_⟩
  · rw [List.map_fst_zip (by omega)]
  · rw [evC_editsC l us hl, List.length_zip, hl, Nat.min_self]; exact hr
  · obtain ⟨i, hi, rfl⟩ := List.getElem_of_mem hx
    simp only [List.getElem_zip]
    exact hs i (by simp at hi; omega) (by simp at hi; omega)
theorem EvAt.edits {w : World} {v : Value} {l : List EV} (h : EvAt w v l) : EditsAt w v (l.map (·.1)) := by
  refine ⟨l.map (·.2), by simp, ?_, fun i h1 h2 => ?_⟩
  · rw [← evC_editsC _ _ (by simp), List.length_map]
    have : (l.map (·.1)).zip (l.map (·.2)) = l := by
      rw [List.zip_map', List.map_id']
    rw [this]; exact h.1
  · simp only [List.getElem_map]
    exact h.2 _ (List.getElem_mem _)
theorem rdEv_at {w : World} {T : TypeId → Prop} {a : Option Addr} {c : Nat} {l : List EV} (h : Rd w T 3 (.slice a l.length c) l.length (evC l)) {k : Nat} (hk : k < l.length) :
    ∃ b off, a = some ⟨b, off, none⟩ ∧ b < w.heap.size ∧ w.cell? ⟨b, off + k * 3, none⟩ = some (.int .i64 l[k].1.pos) ∧ w.cell? ⟨b, off + k * 3 + 1, none⟩ = some (.int .i64 l[k].1.del) ∧
      w.cell? ⟨b, off + k * 3 + 2, none⟩ = some l[k].2 := by
  obtain ⟨b, off, e, hb, hc⟩ := h.at (by omega)
  have := evC_get l k hk
  exact ⟨b, off, e, hb, hc _ _ this.1, hc (k * 3 + 1) _ this.2.1, hc (k * 3 + 2) _ this.2.2⟩
theorem box3_cell {w : World} {b : Nat} {x y z : Value} {t : TypeId} {fz : Nat × Nat} (h : w.heap[b]? = some (.cells #[x, y, z] t fz)) :
    w.cell? ⟨b, 0, none⟩ = some x ∧ w.cell? ⟨b, 1, none⟩ = some y ∧ w.cell? ⟨b, 2, none⟩ = some z := by simp [World.cell?, h]
/-- How a test of edits behaves: a function value over one box, in every world that keeps what w0 held. -/
def Tests (w0 : World) (f : FuncId) (B : Nat) (p : Edit → Bool) (ev : List EV) : Prop :=
  ∀ W x, x ∈ ev → Below w0.heap.size w0 W → Calls Try.prog f #[editV x.1 x.2, .pointer (some ⟨B, 0, none⟩)] W fun e W' => e = .returned (.bool (p x.1)) ∧ Below W.heap.size W W'
end Go.Proofs.Ythdafajhohdkoaa
