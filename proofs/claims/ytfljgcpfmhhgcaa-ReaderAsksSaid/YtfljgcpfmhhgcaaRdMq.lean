/- The maker of examinations: the examination. -/
import Derived.Test.YtfljgcpfmhhgcaaRdMl
import Derived.Test.YtfljgcpfmhhgcaaRdMo
import Derived.Test.YtfljgcpfmhhgcaaRdMi
namespace Go.Proofs.Ytfljgcpfmhhgcaa
open Go.RowKit Go.Lab
attribute [local go_sem] Oper.semAt_some
set_option maxRecDepth 100000
/-- The types of the lists of needed facts and of the questions. -/
def TQ (t : TypeId) : Prop := t = 3 ∨ t = 113
theorem own_keeps {T : TypeId → Prop} {W X : World} {base : Nat} {e : TypeId} {k n : Nat} {v : Value} {xs : List Value} (h : W.ownsRow base e k v n xs) (hk : Keeps T W X) (he : T e) : X.ownsRow base e k v n xs := by
  refine ⟨h.1, ?_⟩
  rcases h.2 with h2 | ⟨g, cap, cur, rfl, hg, hb, r⟩
  · exact .inl h2
  · exact .inr ⟨g, cap, cur, rfl, hg, hk.2 g cur e _ he hb, r⟩
theorem MkR.keeps {P : Nat} {la : Option Addr} {lc : Nat} {l : List Int} {w X : World} {T : TypeId → Prop} (r : MkR P la lc l w X) (h : Mk P la lc l w) (hT : ¬ T 82) : Keeps T w X := by
  refine ⟨r.size, fun b cur t fz ht hx => r.2.cells hx (fun e => ?_)⟩
  subst e
  obtain ⟨⟨j, hj⟩, _⟩ := h
  rw [hj] at hx
  injection hx with hx
  injection hx with _ h2 _
  subst h2
  exact hT ht
/-- The questions of an item, cell by cell. -/
def QuestsC (W : World) (cs : List Value) (qs : List (List Int)) : Prop := ∀ (j : Nat) (h : j < qs.length), ∃ (k p : Int) (s : ByteArray) (a1 a2 na a6 : Option Addr) (n1 c1 n2 c2 nc n6 c6 : Nat), cs[j * 7]? = some (.int .i64 k) ∧ cs[j * 7 + 1]? = some (.slice a1 n1 c1) ∧ cs[j * 7 + 2]? = some (.slice a2 n2 c2) ∧ cs[j * 7 + 3]? = some (.slice na qs[j].length nc) ∧ cs[j * 7 + 4]? = some (.string s) ∧ cs[j * 7 + 5]? = some (.int .i64 p) ∧ cs[j * 7 + 6]? = some (.slice a6 n6 c6) ∧ IntsOf (fun t => t = 3) W (.slice na qs[j].length nc) qs[j]
theorem QuestsC.keeps {W W' : World} {cs : List Value} {qs : List (List Int)} (h : QuestsC W cs qs) (hk : Keeps (fun t => t = 3) W W') : QuestsC W' cs qs := fun j hj => by
  obtain ⟨k, p, s, a1, a2, na, a6, n1, c1, n2, c2, nc, n6, c6, g0, g1, g2, g3, g4, g5, g6, g7⟩ := h j hj
  exact ⟨k, p, s, a1, a2, na, a6, n1, c1, n2, c2, nc, n6, c6, g0, g1, g2, g3, g4, g5, g6, g7.keeps hk⟩
theorem app_low {cs ds : List Value} {i : Nat} {v : Value} (h : cs[i]? = some v) : (cs ++ ds)[i]? = some v := by
  rw [List.getElem?_append_left (List.getElem?_eq_some_iff.1 h).1]
  exact h
theorem app_high {cs ds : List Value} {i j : Nat} (h : i = cs.length + j) : (cs ++ ds)[i]? = ds[j]? := by
  rw [List.getElem?_append_right (by omega), show i - cs.length = j by omega]
theorem QuestsC.snoc {W : World} {cs : List Value} {qs : List (List Int)} (h : QuestsC W cs qs) (hl : cs.length = qs.length * 7) (k p : Int) (s : ByteArray) (a1 a2 na a6 : Option Addr) (n1 c1 n2 c2 nc n6 c6 : Nat) (L : List Int) (hi : IntsOf (fun t => t = 3) W (.slice na L.length nc) L) :
    QuestsC W (cs ++ [.int .i64 k, .slice a1 n1 c1, .slice a2 n2 c2, .slice na L.length nc, .string s, .int .i64 p, .slice a6 n6 c6]) (qs ++ [L]) := fun j hj => by
  rcases Nat.lt_or_ge j qs.length with hlt | hge
  · have e : (qs ++ [L])[j] = qs[j] := List.getElem_append_left hlt
    obtain ⟨k, p, s, a1, a2, na, a6, n1, c1, n2, c2, nc, n6, c6, g0, g1, g2, g3, g4, g5, g6, g7⟩ := h j hlt
    rw [e]
    exact ⟨k, p, s, a1, a2, na, a6, n1, c1, n2, c2, nc, n6, c6, app_low g0, app_low g1, app_low g2, app_low g3, app_low g4, app_low g5, app_low g6, g7⟩
  · have hj2 : j = qs.length := by simp at hj; omega
    subst hj2
    have e : (qs ++ [L])[qs.length] = L := by simp
    rw [e]
    exact ⟨k, p, s, a1, a2, na, a6, n1, c1, n2, c2, nc, n6, c6, app_high (j := 0) (by omega), app_high (j := 1) (by omega), app_high (j := 2) (by omega), app_high (j := 3) (by omega), app_high (j := 4) (by omega), app_high (j := 5) (by omega), app_high (j := 6) (by omega), hi⟩
def QuestsOf (W : World) (v : Value) (qs : List (List Int)) : Prop := ∃ cs, Rd W (fun t => t = 113) 7 v qs.length cs ∧ QuestsC W cs qs
theorem QuestsOf.keeps {W W' : World} {v : Value} {qs : List (List Int)} (h : QuestsOf W v qs) (hk : Keeps TQ W W') : QuestsOf W' v qs := by
  obtain ⟨cs, h1, h2⟩ := h
  exact ⟨cs, h1.keeps (hk.mono (fun t ht => .inr ht)), h2.keeps (hk.mono (fun t ht => .inl ht))⟩
theorem QuestsOf.at {W : World} {v : Value} {qs : List (List Int)} (h : QuestsOf W v qs) : QuestAt W v qs := by
  obtain ⟨cs, h1, h2⟩ := h
  obtain ⟨a, c, rfl, hc, hm⟩ := h1.form
  refine ⟨a, c, rfl, hc, hm, fun j hj => ?_⟩
  obtain ⟨b, off, e, hb, hcell⟩ := Rd.at h1 (by omega)
  obtain ⟨k, p, s, a1, a2, na, a6, n1, c1, n2, c2, nc, n6, c6, g0, g1, g2, g3, g4, g5, g6, g7⟩ := h2 j hj
  refine ⟨b, off, k, p, s, a1, a2, na, a6, n1, c1, n2, c2, nc, n6, c6, e, hb, hcell _ _ g0, ?_, ?_, ?_, ?_, ?_, ?_, g7.at⟩
  · rw [Nat.add_assoc]; exact hcell _ _ g1
  · rw [Nat.add_assoc]; exact hcell _ _ g2
  · rw [Nat.add_assoc]; exact hcell _ _ g3
  · rw [Nat.add_assoc]; exact hcell _ _ g4
  · rw [Nat.add_assoc]; exact hcell _ _ g5
  · rw [Nat.add_assoc]; exact hcell _ _ g6
/-- The items of an examination, cell by cell. -/
def ItemsC (W : World) (cs : List Value) (R : List (List (List Int))) : Prop := ∀ (i : Nat) (h : i < R.length), ∃ (s0 : ByteArray) (a1 a2 qa : Option Addr) (n1 c1 n2 c2 qc : Nat), cs[i * 4]? = some (.string s0) ∧ cs[i * 4 + 1]? = some (.slice a1 n1 c1) ∧ cs[i * 4 + 2]? = some (.slice a2 n2 c2) ∧ cs[i * 4 + 3]? = some (.slice qa R[i].length qc) ∧ QuestsOf W (.slice qa R[i].length qc) R[i]
theorem ItemsC.keeps {W W' : World} {cs : List Value} {R : List (List (List Int))} (h : ItemsC W cs R) (hk : Keeps TQ W W') : ItemsC W' cs R := fun i hi => by
  obtain ⟨s0, a1, a2, qa, n1, c1, n2, c2, qc, g0, g1, g2, g3, g4⟩ := h i hi
  exact ⟨s0, a1, a2, qa, n1, c1, n2, c2, qc, g0, g1, g2, g3, g4.keeps hk⟩
theorem ItemsC.snoc {W : World} {cs : List Value} {R : List (List (List Int))} (h : ItemsC W cs R) (hl : cs.length = R.length * 4) (s0 : ByteArray) (a1 a2 qa : Option Addr) (n1 c1 n2 c2 qc : Nat) (qs : List (List Int)) (hq : QuestsOf W (.slice qa qs.length qc) qs) :
    ItemsC W (cs ++ [.string s0, .slice a1 n1 c1, .slice a2 n2 c2, .slice qa qs.length qc]) (R ++ [qs]) := fun i hi => by
  rcases Nat.lt_or_ge i R.length with hlt | hge
  · have e : (R ++ [qs])[i] = R[i] := List.getElem_append_left hlt
    obtain ⟨s0, a1, a2, qa, n1, c1, n2, c2, qc, g0, g1, g2, g3, g4⟩ := h i hlt
    rw [e]
    exact ⟨s0, a1, a2, qa, n1, c1, n2, c2, qc, app_low g0, app_low g1, app_low g2, app_low g3, g4⟩
  · have hi2 : i = R.length := by simp at hi; omega
    subst hi2
    have e : (R ++ [qs])[R.length] = qs := by simp
    rw [e]
    exact ⟨s0, a1, a2, qa, n1, c1, n2, c2, qc, app_high (j := 0) (by omega), app_high (j := 1) (by omega), app_high (j := 2) (by omega), app_high (j := 3) (by omega), hq⟩
theorem exam_at {W : World} {a : Option Addr} {c : Nat} {T : TypeId → Prop} {cs : List Value} {R : List (List (List Int))} (t : ByteArray) (h : Rd W T 4 (.slice a R.length c) R.length cs) (hi : ItemsC W cs R) : ExamAt W (.agg #[.string t, .slice a R.length c]) R := by
  obtain ⟨a', c', e, hc, hm⟩ := h.form
  injection e with e1 _ e2
  subst e1 e2
  refine ⟨t, a, c, rfl, a, c, rfl, hc, hm, fun i hi' => ?_⟩
  obtain ⟨b, off, e, hb, hcell⟩ := Rd.at h (by omega)
  obtain ⟨s0, a1, a2, qa, n1, c1, n2, c2, qc, g0, g1, g2, g3, g4⟩ := hi i hi'
  refine ⟨b, off, s0, a1, a2, qa, n1, c1, n2, c2, qc, e, hb, hcell _ _ g0, ?_, ?_, ?_, g4.at⟩
  · rw [Nat.add_assoc]; exact hcell _ _ g1
  · rw [Nat.add_assoc]; exact hcell _ _ g2
  · rw [Nat.add_assoc]; exact hcell _ _ g3
/-! What keeps a block that Fact can be asked about. -/
theorem BlockV.map {W X : World} {P : Nat} {v : Value} (h : BlockV W P v) (hf : ∀ a, FirstIs W P a → FirstIs X P a) : BlockV X P v := by
  obtain ⟨k, e0, e1, s0, f0, f1, ra, ea, sa, ga, fa, ma, ia, rn, rc, en, ec, sn, sc, gn, gc, fn, fc, mn, mc, ln, lc, hv, h4, h3, h5⟩ := h
  exact ⟨k, e0, e1, s0, f0, f1, ra, ea, sa, ga, fa, ma, ia, rn, rc, en, ec, sn, sc, gn, gc, fn, fc, mn, mc, ln, lc, hv, h4, fun e => ⟨(h3 e).1, hf _ (h3 e).2⟩, fun e => ⟨(h5 e).1, hf _ (h5 e).2⟩⟩
theorem BlockV.mkR {P : Nat} {la : Option Addr} {lc : Nat} {l : List Int} {w X : World} {v : Value} (h : BlockV w P v) (r : MkR P la lc l w X) : BlockV X P v := h.map fun _ hf => hf.mkR r
theorem BlockV.below {W X : World} {P : Nat} {v : Value} (h : BlockV W P v) (hb : Below W.heap.size W X) : BlockV X P v := h.map fun _ ⟨gb, e, h1, h2, ra, rn, rc, h3⟩ => ⟨gb, e, h1, Nat.lt_of_lt_of_le h2 hb.size, ra, rn, rc, (hb.cell (p := ⟨gb, 0, none⟩) h2).trans h3⟩
theorem BlockV.box {W X : World} {P b : Nat} {v : Value} (h : BlockV W P v) (hT : Turned (fun c => c = b) W X) (hq : ∀ a n c, W.cell? ⟨b, 0, none⟩ ≠ some (.slice a n c)) : BlockV X P v := h.map fun _ ⟨gb, e, h1, h2, ra, rn, rc, h3⟩ => ⟨gb, e, h1, Nat.lt_of_lt_of_le h2 hT.size, ra, rn, rc, hT.cell h3 (fun e2 => by subst e2; exact hq _ _ _ h3)⟩
/-- A row that begins with a number, or lies nowhere yet. -/
def C0 (v : Value) (xs : List Value) : Prop := v.ownBlock = none ∨ ∃ z : Int, xs[0]? = some (.int .i64 z)
theorem BlockV.row {W X : World} {P base k n : Nat} {e : TypeId} {u v : Value} {xs : List Value} (h : BlockV W P v) (ho : W.ownsRow base e k u n xs) (hc : C0 u xs) (hg : W.grownBy X u.ownBlock) : BlockV X P v := by
  rcases ho.2 with ⟨rfl, _⟩ | ⟨g, cap, cur, rfl, _⟩
  · exact h.map fun _ ⟨gb, e, h1, h2, ra, rn, rc, h3⟩ => ⟨gb, e, h1, Nat.lt_of_lt_of_le h2 hg.size, ra, rn, rc, (hg.cell_far ⟨gb, 0, none⟩ h2 (fun e => by cases e)).trans h3⟩
  · refine h.box (b := g) (Turned.of_grown hg rfl) (fun a m c e2 => ?_)
    rcases hc with hc | ⟨z, hz⟩
    · cases hc
    · have hl := (List.getElem?_eq_some_iff.1 hz).1
      have hn : 0 < n := by
        rcases Nat.eq_zero_or_pos n with h0 | h0
        · have := ho.1
          rw [h0, Nat.zero_mul] at this
          omega
        · exact h0
      obtain ⟨b, off, e3, _, hcell⟩ := Rd.at (Rd.of_own ho) hn
      injection e3 with e3
      injection e3 with e3 e4
      subst e3 e4
      rw [hcell 0 _ hz] at e2
      cases e2
theorem C0.app {W : World} {base k n : Nat} {e : TypeId} {u u' : Value} {xs ys : List Value} (ho : W.ownsRow base e k u n xs) (hc : C0 u xs) {z : Int} (hy : ys[0]? = some (.int .i64 z)) : C0 u' (xs ++ ys) := by
  cases hxs : xs with
  | nil => exact .inr ⟨z, by simpa using hy⟩
  | cons x r =>
    rcases hc with hc | ⟨z', hz'⟩
    · exfalso
      rcases ho.2 with ⟨rfl, h0⟩ | ⟨g, cap, cur, rfl, _⟩
      · have := ho.1
        rw [hxs] at this
        first | (rw [h0.1] at this; simp at this) | (rw [h0] at this; simp at this) | (simp [h0] at this)
      · cases hc
    · rw [hxs] at hz'
      exact .inr ⟨z', by simpa using hz'⟩
theorem box4s {w : World} {b : Nat} {x0 x1 x2 x3 : Value} {t : TypeId} {fz : Nat × Nat} (h : w.heap[b]? = some (.cells #[x0, x1, x2, x3] t fz)) :
    w.cell? ⟨b, 0, none⟩ = some x0 ∧ w.cell? ⟨b, 1, none⟩ = some x1 ∧ w.cell? ⟨b, 2, none⟩ = some x2 ∧ w.cell? ⟨b, 3, none⟩ = some x3 := by
  simp [World.cell?, h]
/-- An own row of another type does not stir. -/
theorem own_other {W X : World} {base base' k k' n n' : Nat} {e e' : TypeId} {u v : Value} {xs ys : List Value} (h : W.ownsRow base e k v n xs) (ho : W.ownsRow base' e' k' u n' ys) (hg : W.grownBy X u.ownBlock) (hne : e ≠ e') : X.ownsRow base e k v n xs :=
  own_keeps h (Keeps.grown (T := fun t => t = e) ho hg (fun t ht => by rw [ht]; exact hne)) rfl
theorem own_below {W X : World} {base k n : Nat} {e : TypeId} {v : Value} {xs : List Value} (h : W.ownsRow base e k v n xs) (hb : Below W.heap.size W X) : X.ownsRow base e k v n xs :=
  own_keeps h (Keeps.below (fun t => t = e) hb) rfl
theorem own_boxt {W : World} {base k n b : Nat} {e t' : TypeId} {v : Value} {xs : List Value} {cur : Array Value} {fz : Nat × Nat} (h : W.ownsRow base e k v n xs) (hb : W.heap[b]? = some (.cells cur t' fz)) (hne : e ≠ t') (o : Nat) (u : Value) : (W.setCell ⟨b, o, none⟩ u).ownsRow base e k v n xs :=
  own_keeps h (Keeps.setCell (T := fun t => t = e) (a := ⟨b, o, none⟩) hb (fun t ht => by rw [ht]; exact hne) u) rfl
theorem box_set {W : World} {b c o : Nat} {ob : Obj} (h : W.heap[b]? = some ob) (hne : b ≠ c) (u : Value) : (W.setCell ⟨c, o, none⟩ u).heap[b]? = some ob := (Below.heap_setCell W ⟨c, o, none⟩ u b hne).trans h
theorem range_map107 (f : Nat → Value) : (List.range 107).map f = [f 0, f 1, f 2, f 3, f 4, f 5, f 6, f 7, f 8, f 9, f 10, f 11, f 12, f 13, f 14, f 15, f 16, f 17, f 18, f 19, f 20, f 21, f 22, f 23, f 24, f 25, f 26, f 27, f 28, f 29, f 30, f 31, f 32, f 33, f 34, f 35, f 36, f 37, f 38, f 39, f 40, f 41, f 42, f 43, f 44, f 45, f 46, f 47, f 48, f 49, f 50, f 51, f 52, f 53, f 54, f 55, f 56, f 57, f 58, f 59, f 60, f 61, f 62, f 63, f 64, f 65, f 66, f 67, f 68, f 69, f 70, f 71, f 72, f 73, f 74, f 75, f 76, f 77, f 78, f 79, f 80, f 81, f 82, f 83, f 84, f 85, f 86, f 87, f 88, f 89, f 90, f 91, f 92, f 93, f 94, f 95, f 96, f 97, f 98, f 99, f 100, f 101, f 102, f 103, f 104, f 105, f 106] := rfl
theorem frame107 (t : Array Value) (ds : List Deferred) (h : t.size = 107) : ({ tmps := t, defers := ds } : Act) = { tmps := #[slot t 0, slot t 1, slot t 2, slot t 3, slot t 4, slot t 5, slot t 6, slot t 7, slot t 8, slot t 9, slot t 10, slot t 11, slot t 12, slot t 13, slot t 14, slot t 15, slot t 16, slot t 17, slot t 18, slot t 19, slot t 20, slot t 21, slot t 22, slot t 23, slot t 24, slot t 25, slot t 26, slot t 27, slot t 28, slot t 29, slot t 30, slot t 31, slot t 32, slot t 33, slot t 34, slot t 35, slot t 36, slot t 37, slot t 38, slot t 39, slot t 40, slot t 41, slot t 42, slot t 43, slot t 44, slot t 45, slot t 46, slot t 47, slot t 48, slot t 49, slot t 50, slot t 51, slot t 52, slot t 53, slot t 54, slot t 55, slot t 56, slot t 57, slot t 58, slot t 59, slot t 60, slot t 61, slot t 62, slot t 63, slot t 64, slot t 65, slot t 66, slot t 67, slot t 68, slot t 69, slot t 70, slot t 71, slot t 72, slot t 73, slot t 74, slot t 75, slot t 76, slot t 77, slot t 78, slot t 79, slot t 80, slot t 81, slot t 82, slot t 83, slot t 84, slot t 85, slot t 86, slot t 87, slot t 88, slot t 89, slot t 90, slot t 91, slot t 92, slot t 93, slot t 94, slot t 95, slot t 96, slot t 97, slot t 98, slot t 99, slot t 100, slot t 101, slot t 102, slot t 103, slot t 104, slot t 105, slot t 106], defers := ds } := by
  have e : t = ((List.range 107).map (slot t)).toArray := by
    apply Array.ext
    · simp [h]
    · intro i h1 h2
      simp [slot, Array.getD, h1]
  rw [range_map107] at e
  exact congrArg (fun x => ({ tmps := x, defers := ds } : Act)) e
theorem slBlockR : SlT Try.prog 85 106 (.agg (blkC 0 0 0 0 0 0 (.slice none 0 0) (.slice none 0 0) (.slice none 0 0) (.slice none 0 0) (.slice none 0 0) (.slice none 0 0) (.slice none 0 0))) 13 216 := ⟨by kernel_rfl, by kernel_rfl, rfl, by decide⟩
theorem slFactR : SlT Try.prog 86 109 (.agg #[.int .i64 0, .int .i64 0, .int .i64 0, .int .i64 0]) 4 32 := ⟨by kernel_rfl, by kernel_rfl, rfl, by decide⟩
theorem slQuestR : SlT Try.prog 87 113 (.agg (questC 0 0 ⟨#[]⟩ (.slice none 0 0) (.slice none 0 0) (.slice none 0 0) (.slice none 0 0))) 7 128 := ⟨by kernel_rfl, by kernel_rfl, rfl, by decide⟩
theorem slItemR : SlT Try.prog 55 89 (.agg #[.string ⟨#[]⟩, .slice none 0 0, .slice none 0 0, .slice none 0 0]) 4 88 := ⟨by kernel_rfl, by kernel_rfl, rfl, by decide⟩
theorem load_exam (w : World) (g : Nat) (x y : Value) (c0 : w.cell? ⟨g, 0, none⟩ = some x) (c1 : w.cell? ⟨g, 1, none⟩ = some y) : (loadVar 57 ⟨g, 0, none⟩).run Try.prog w = .ok (.agg #[x, y]) w := by
  go_simp
/-- The loop over the items. -/
def ItI (P : Nat) (la : Option Addr) (lc : Nat) (l : List Int) (X : World) (B4 m : Nat) (ttl : ByteArray) (s6 : Value) (wr : World) : Prop :=
  ∃ (i : Nat) (R : List (List (List Int))) (iv : Value) (cs : List Value), i ≤ m ∧ s6 = .int .i64 (i : Nat) ∧ R.length = i ∧ wr.ownsRow X.heap.size 89 4 iv i cs ∧ ItemsC wr cs R ∧ (∀ qs ∈ R, qs.length ≤ 1000 ∧ ∀ n ∈ qs, n.length ≤ 1000) ∧ wr.heap[B4]? = some (.cells #[.string ttl, iv] 57) ∧ MkR P la lc l X wr
/-- The loop over the blocks of an item. -/
def BkI (P : Nat) (la : Option Addr) (lc : Nat) (l : List Int) (w0 : World) (B7 nb : Nat) (nm : ByteArray) (s9 : Value) (wr : World) : Prop :=
  ∃ (k nf : Nat) (bv fv : Value) (xs ys : List Value), k ≤ nb ∧ s9 = .int .i64 (k : Nat) ∧ nf ≤ 2 * k ∧ wr.ownsRow w0.heap.size 106 13 bv k xs ∧ C0 bv xs ∧ wr.ownsRow w0.heap.size 109 4 fv nf ys ∧ C0 fv ys ∧ (∀ y ∈ ys, ∃ z : Int, y = .int .i64 z) ∧ wr.heap[B7]? = some (.cells #[.string nm, bv, fv, .slice none 0 0] 89) ∧ MkR P la lc l w0 wr
/-- The loop over the facts of a block. -/
def FaI (P : Nat) (la : Option Addr) (lc : Nat) (l : List Int) (w0 : World) (B7 B10 nq top : Nat) (nm : ByteArray) (bv : Value) (xs bk : List Value) (k : Nat) (s12 : Value) (wr : World) : Prop :=
  ∃ (j nf : Nat) (fv : Value) (ys : List Value), j ≤ nq ∧ s12 = .int .i64 (j : Nat) ∧ nf ≤ top + j ∧ wr.ownsRow w0.heap.size 106 13 bv (k + 1) xs ∧ wr.ownsRow w0.heap.size 109 4 fv nf ys ∧ C0 fv ys ∧ (∀ y ∈ ys, ∃ z : Int, y = .int .i64 z) ∧ wr.heap[B7]? = some (.cells #[.string nm, bv, fv, .slice none 0 0] 89) ∧ wr.heap[B10]? = some (.cells bk.toArray 106) ∧ BlockV wr P (.agg bk.toArray) ∧ MkR P la lc l w0 wr
/-- The loop over the questions of an item. -/
def AsI (P : Nat) (la : Option Addr) (lc : Nat) (l : List Int) (w0 : World) (B7 na : Nat) (nm : ByteArray) (bv fv : Value) (s15 : Value) (wr : World) : Prop :=
  ∃ (q : Nat) (qs : List (List Int)) (av : Value) (cs : List Value), q ≤ na ∧ s15 = .int .i64 (q : Nat) ∧ qs.length = q ∧ wr.ownsRow w0.heap.size 113 7 av q cs ∧ QuestsC wr cs qs ∧ (∀ n ∈ qs, n.length ≤ 1000) ∧ wr.heap[B7]? = some (.cells #[.string nm, bv, fv, av] 89) ∧ MkR P la lc l w0 wr
set_option maxHeartbeats 100000000 in
theorem examM_any (v : Value) (l0 : List Int) (w : World) (h : IntsAt w v l0) :
    Calls Try.prog 29 #[v] w fun e w' => (∃ ev R, e = .returned ev ∧ ExamAt w' ev R ∧ ExamOk R ∧ R.length ≤ 3) ∧ Below w.heap.size w w' := by
  obtain ⟨la, lc, rfl, hlc, hcm⟩ := h.1.form
  unfold maxLen at hcm
  have H := hidep h
  clear h
  go_enter Try.func29, Try.ntmps29
  go_upto_region 2 with (fail)
  obtain ⟨n, hn⟩ : ∃ n : Nat, (min (l0.length : Int) 400).toNat = n := ⟨_, rfl⟩
  have hnl : n ≤ l0.length := by omega
  rw [hn]
  clear hn
  obtain ⟨l, hl⟩ : ∃ l : List Int, l = l0.take n := ⟨_, rfl⟩
  have hln : l.length = n := by rw [hl, List.length_take]; omega
  have hint : ∀ X, Below w.heap.size w X → IntsAt X (.slice la l.length lc) l := fun X hX => by
    have h1 := (H.out.below hX).1.pre hnl
    refine ⟨?_, fun x hx => H.out.2 x (List.mem_of_mem_take (hl ▸ hx))⟩
    rw [hln, hl]
    have e : intsC (l0.take n) = (intsC l0).take (n * 1) := by simp [intsC, List.map_take]
    rw [e]
    exact h1
  have HINT := hidep hint
  rw [← hln]
  clear hint hln hl hnl H hlc hcm
  refine wp_abs (fun X => X.heap[w.heap.size]? = some (.cells #[.string ⟨#[]⟩, .slice none 0 0] 57) ∧ X.heap[w.heap.size + 1]? = some (.cells #[.slice la l.length lc, .int .i64 0] 82) ∧ Below w.heap.size w X)
    ⟨allocs_get [.cells #[.string ⟨#[]⟩, .slice none 0 0] 57, .cells #[.slice la l.length lc, .int .i64 0] 82] w 0 _ rfl, allocs_get [.cells #[.string ⟨#[]⟩, .slice none 0 0] 57, .cells #[.slice la l.length lc, .int .i64 0] 82] w 1 _ rfl, ((Below.refl _ _).alloc (Nat.le_refl _) _).alloc (by simp) _⟩ ?_
  rintro X ⟨hq2, hqP, hbX⟩
  obtain ⟨B2, hB2⟩ : ∃ B2, B2 = w.heap.size := ⟨_, rfl⟩
  obtain ⟨P, hPe⟩ : ∃ P, P = w.heap.size + 1 := ⟨_, rfl⟩
  rw [← hPe] at hqP
  rw [← hB2] at hq2
  rw [← hPe, ← hB2]
  have hP := lt_of_block hqP
  have HB2 := hidep (show w.heap.size ≤ B2 ∧ w.heap.size ≤ P ∧ B2 ≠ P from by omega)
  clear hPe hB2
  have HBX := hidep hbX
  have HLOW := hidep (show ∀ Y, Turned (fun b => b = P) X Y → Below w.heap.size w Y from fun Y hY => ⟨hY.os.trans hbX.os, hY.tape.trans hbX.tape, hY.output.trans hbX.output, Nat.le_trans hbX.size hY.size, fun b hb => (hY.block b (Nat.lt_of_lt_of_le hb hbX.size) (by have := HB2.out; omega)).trans (hbX.block b hb)⟩)
  have HM := hidep (show Mk P la lc l X from ⟨⟨0, hqP⟩, fun Y hY => HINT.out Y (HLOW.out Y hY)⟩)
  have hrX := MkR.refl HM.out
  have HQ2 := hidep (show ∀ Y, MkR P la lc l X Y → Y.heap[B2]? = some (.cells #[.string ⟨#[]⟩, .slice none 0 0] 57) from fun Y hY => hY.box hq2 HB2.out.2.2)
  have hB2X := lt_of_block hq2
  have HT := hidep (fun n Y (hY : MkR P la lc l X Y) => takeM_any n Y (hY.mk HM.out))
  clear hbX hq2 hqP
  go_upto_region 3 with (first
    | (go_at_call 52; refine (HT.out _ _ (hrX.alloc _)).mono ?_; rintro e w1 ⟨⟨y, rfl, hy0, hy1, _⟩, hr1⟩; obtain ⟨yn, rfl⟩ : ∃ yn : Nat, y = (yn : Int) := ⟨y.toNat, by omega⟩; have hy3 : (yn : Int) < 3 := hy1 (by decide); obtain ⟨v, hc, ttl, rfl⟩ := lit_get (p := fun v => ∃ s : ByteArray, v = .string s) (hr1.box (heap_alloc_new _ _) (by omega)) (by simp) (z := yn) (by simp; omega); have hr1 := (hrX.alloc _).trans hr1)
    | fail)
  refine wp_abs (fun Y => Y.heap[w1.heap.size]? = some (.cells #[.string ttl, .slice none 0 0] 57) ∧ MkR P la lc l X Y) ⟨heap_alloc_new _ _, hr1.alloc _⟩ ?_
  obtain ⟨B4, hB4⟩ : ∃ B4, B4 = w1.heap.size := ⟨_, rfl⟩
  rw [← hB4]
  have hs1 := hr1.size
  have hB4X : X.heap.size ≤ B4 := by omega
  clear hB4 hs1 hc hy0 hy1 hy3 hr1 hrX
  rintro X1 ⟨hq4, hr1⟩
  go_upto_region 4 with (first
    | (go_at_call 52; refine (HT.out _ _ hr1).mono ?_; rintro e w2 ⟨⟨y, rfl, hy0, hy1, _⟩, hr2⟩; have hy3 : y < 3 := hy1 (by decide); have hq4 := hr2.box hq4 (by omega); have hr2 := hr1.trans hr2)
    | fail)
  obtain ⟨m, hm⟩ : ∃ m : Nat, 1 + y = (m : Int) := ⟨(1 + y).toNat, by omega⟩
  have hm3 : m ≤ 3 := by omega
  rw [hm]
  clear hm hy0 hy1 hy3 hr1
  go_upto_region 5 with (fail)
  refine wp_loop (LoopI 107 (fun tm ds wr => (slot tm 2) = .pointer (some ⟨B2, 0, none⟩) ∧ (slot tm 3) = .pointer (some ⟨P, 0, none⟩) ∧ (slot tm 4) = .pointer (some ⟨B4, 0, none⟩) ∧ (slot tm 5) = .int .i64 (m : Nat) ∧ ds = [] ∧ ItI P la lc l X B4 m ttl (slot tm 6) wr)) (fun a' wr => m - (intOf (a'.tmps.getD 6 undef)).toNat) ?itemsStart ?itemsRound
  case' itemsStart => refine LoopI.mk rfl ?_
  case' itemsRound => (rintro ⟨t, ds⟩ wr ⟨hts, hrel⟩; dsimp only at hts hrel; rw [frame107 t ds hts])
  case itemsStart => exact ⟨rfl, rfl, rfl, rfl, rfl, 0, [], .slice none 0 0, [], Nat.zero_le _, rfl, rfl, World.ownsRow_nil _ _ _ _, (fun i hi => by cases hi), (by simp), hq4, hr2⟩
  clear hq4 hr2
  obtain ⟨h2, h3, h4, h5, hds, i, R, iv, cs, hi, h6, hR, hown, hIC, hROk, hq4, hrw⟩ := hrel
  subst hds
  obtain ⟨ia0, ic0, rfl, _, _⟩ := (Rd.of_own hown).form
  rw [h2, h3, h4, h5, h6]
  clear h2 h3 h4 h5 h6 hts
  by_cases hlt : i < m
  · have hlti : (i : Int) < (m : Int) := by omega
    obtain ⟨w0, hw0⟩ : ∃ w0 : World, w0 = wr := ⟨_, rfl⟩
    rw [← hw0] at hown hIC hq4 hrw
    rw [← hw0]
    clear hw0
    have HM0 := hidep (hrw.mk HM.out)
    have hP0 := HM0.out.lt
    have hB4l := lt_of_block hq4
    have hsX0 := hrw.size
    have HI := hidep (And.intro hown (And.intro hIC (And.intro hq4 hrw)))
    have HROk := hidep hROk
    have hr0 := MkR.refl HM0.out
    clear hown hIC hq4 hrw hROk
    obtain ⟨vn, hcn, nm, rfl⟩ := lit_get (X := w0.alloc (.cells #[.string ⟨#[102, 105, 114, 115, 116]⟩, .string ⟨#[113, 50]⟩, .string ⟨#[108, 97, 115, 116]⟩] 9)) (p := fun v => ∃ s : ByteArray, v = .string s) (heap_alloc_new _ _) (by simp) (z := i) (by simp; omega)
    have hi3 : (i : Int) < 3 := by omega
    go_upto_region 8 with (fail)
    refine wp_abs (fun Y => Y.heap[w0.heap.size + 1]? = some (.cells #[.string nm, .slice none 0 0, .slice none 0 0, .slice none 0 0] 89) ∧ MkR P la lc l w0 Y)
      ⟨allocs_get [.cells #[.string ⟨#[102, 105, 114, 115, 116]⟩, .string ⟨#[113, 50]⟩, .string ⟨#[108, 97, 115, 116]⟩] 9, .cells #[.string nm, .slice none 0 0, .slice none 0 0, .slice none 0 0] 89] w0 1 _ rfl, (hr0.alloc _).alloc _⟩ ?_
    rintro Y ⟨hq7, hrY⟩
    obtain ⟨B7, hB7⟩ : ∃ B7, B7 = w0.heap.size + 1 := ⟨_, rfl⟩
    rw [← hB7] at hq7 ⊢
    have hB7s : w0.heap.size ≤ B7 := by omega
    have hB7P : B7 ≠ P := by omega
    have hT0 := HT
    clear HT
    have HT := hidep (fun n Y (hY : MkR P la lc l w0 Y) => takeM_any n Y (hY.mk HM0.out))
    clear hT0 hB7 hcn hi3 hr0
    go_upto_region 9 with (first
      | (go_at_call 52; refine (HT.out _ _ hrY).mono ?_; rintro e w2 ⟨⟨y, rfl, hy0, hy1, _⟩, hr2⟩; have hy3 : y < 3 := hy1 (by decide); have hq7 := hr2.box hq7 hB7P; have hr2 := hrY.trans hr2)
      | fail)
    obtain ⟨nb, hnb⟩ : ∃ nb : Nat, 1 + y = (nb : Int) := ⟨(1 + y).toNat, by omega⟩
    have hnb3 : nb ≤ 3 := by omega
    rw [hnb]
    clear hnb hy0 hy1 hy3 hrY
    go_upto_region 10 with (fail)
    refine wp_loop (LoopI 107 (fun tm ds wr => (slot tm 2) = .pointer (some ⟨B2, 0, none⟩) ∧ (slot tm 3) = .pointer (some ⟨P, 0, none⟩) ∧ (slot tm 4) = .pointer (some ⟨B4, 0, none⟩) ∧ (slot tm 5) = .int .i64 (m : Nat) ∧ (slot tm 6) = .int .i64 (i : Nat) ∧ (slot tm 7) = .pointer (some ⟨B7, 0, none⟩) ∧ (slot tm 8) = .int .i64 (nb : Nat) ∧ ds = [] ∧ BkI P la lc l w0 B7 nb nm (slot tm 9) wr)) (fun a' wr => nb - (intOf (a'.tmps.getD 9 undef)).toNat) ?blocksStart ?blocksRound
    case' blocksStart => refine LoopI.mk rfl ?_
    case' blocksRound => (rintro ⟨t, ds⟩ wr ⟨hts, hrel⟩; dsimp only at hts hrel; rw [frame107 t ds hts])
    case blocksStart => exact ⟨rfl, rfl, rfl, rfl, rfl, rfl, rfl, rfl, 0, 0, .slice none 0 0, .slice none 0 0, [], [], Nat.zero_le _, rfl, Nat.zero_le _, World.ownsRow_nil _ _ _ _, .inl rfl, World.ownsRow_nil _ _ _ _, .inl rfl, (by simp), hq7, hr2⟩
    clear hq7 hr2
    obtain ⟨h2, h3, h4, h5, h6, h7, h8, hds, k, nf, bv, fv, xs, ys, hk, h9, hnf, hob, hcb, hof, hcf, hyi, hq7, hrw⟩ := hrel
    subst hds
    obtain ⟨ba, bc, rfl, _, _⟩ := (Rd.of_own hob).form
    obtain ⟨ya, yc, rfl, _, _⟩ := (Rd.of_own hof).form
    rw [h2, h3, h4, h5, h6, h7, h8, h9]
    clear h2 h3 h4 h5 h6 h7 h8 h9 hts
    by_cases hkb : k < nb
    · have hkbi : (k : Int) < (nb : Int) := by omega
      go_upto_region 13 with (first
        | (go_at_call 52; refine (HT.out _ _ hrw).mono ?_; rintro e w3 ⟨⟨z, rfl, _, _, _⟩, hr3⟩; have hq7 := hr3.box hq7 hB7P; have hob := hr3.row hob (by omega); have hof := hr3.row hof (by omega); have hr3 := hrw.trans hr3)
        | (go_at_call 53; refine (block_any _ _ (hr3.mk HM0.out)).mono ?_; rintro e w4 ⟨⟨v, rfl, hbv⟩, hr4⟩; have HBV := hidep hbv; obtain ⟨kk, e0, e1, s0, p0, p1, ra, ea, sa, ga, fa, ma, ja, rn, rc, en, ec, sn, sc, gn, gc, fn, fc, mn, mc, ln, lc2, rfl, _, _, _⟩ := hbv; have hq7 := hr4.box hq7 hB7P; have hob := hr4.row hob (by omega); have hof := hr4.row hof (by omega); have hr4 := hr3.trans hr4; dsimp only [blkC])
        | fail)
      refine wp_abs (fun Y => Y.heap[w4.heap.size]? = some (.cells #[.int .i64 kk, .slice ra rn rc, .int .i64 e0, .int .i64 e1, .slice ea en ec, .int .i64 s0, .slice sa sn sc, .slice ga gn gc, .int .i64 p0, .int .i64 p1, .slice fa fn fc, .slice ma mn mc, .slice ja ln lc2] 106) ∧ Below w4.heap.size w4 Y) ⟨heap_alloc_new _ _, ((Below.refl _ _).alloc (Nat.le_refl _) _)⟩ ?_
      obtain ⟨B10, hB10⟩ : ∃ B10, B10 = w4.heap.size := ⟨_, rfl⟩
      rw [← hB10]
      have hs4 := hr4.size
      have hl7 := lt_of_block hq7
      have HB10 := hidep (show w0.heap.size ≤ B10 ∧ B10 ≠ P ∧ B10 ≠ B7 ∧ ∀ g, (Value.slice ba k bc).ownBlock = some g → g ≠ B10 from ⟨by omega, by omega, by omega, fun g hg => by have := (hob.lt g hg).2; omega⟩)
      rintro Y2 ⟨hq10, hbY⟩
      rw [hB10] at hbY
      have hq7 := below_push hbY hq7
      have hob := own_below hob hbY
      have hof := own_below hof hbY
      have HBV2 := hidep (HBV.out.below hbY)
      have hrk := hr4.below hbY
      clear hs4 hl7 hB10 hbY hr4 hr3 hrw
      obtain ⟨y0, y1, y2, y3⟩ := box4s hq7
      obtain ⟨d0, d1, d2, d3, d4, d5, d6, d7, d8, d9, d10, d11, d12⟩ := blk_cells hq10
      have HONE := hidep (show Array.all (α := Value) #[.int .i64 kk, .slice ra rn rc, .int .i64 e0, .int .i64 e1, .slice ea en ec, .int .i64 s0, .slice sa sn sc, .slice ga gn gc, .int .i64 p0, .int .i64 p1, .slice fa fn fc, .slice ma mn mc, .slice ja ln lc2] (·.oneCell') = true from by simp [Value.oneCell'])
      have hsk := hrk.size
      have hl7 := lt_of_block hq7
      have hl10 := lt_of_block hq10
      have HCUR := hidep (And.intro hrk (And.intro hof (And.intro hq10 (And.intro hcb hcf))))
      have hobA := fun o => own_below hob (Below.alloc (Below.refl Y2.heap.size Y2) (Nat.le_refl _) o)
      clear hrk hof hcb hcf hob
      go_upto_region 14 with (first
        | (at_builtin; refine wpList_append_rd _ rfl (.tmp 55) (.tmp 57) rfl slBlockR w0.heap.size _ _ _ rfl (hobA _) _ _ _ _ rfl (Rd.fresh Y2 #[.int .i64 kk, .slice ra rn rc, .int .i64 e0, .int .i64 e1, .slice ea en ec, .int .i64 s0, .slice sa sn sc, .slice ga gn gc, .int .i64 p0, .int .i64 p1, .slice fa fn fc, .slice ma mn mc, .slice ja ln lc2] 106 13 1 rfl (by decide)) (fun u hu => (Array.all_eq_true_iff_forall_mem.1 HONE.out) u (by simpa using hu)) (by unfold maxLen; omega) (by omega) (by simp; omega) ?_; intro v2 w5 hob5 hgr5 hat5 hnl5; clear hat5 hnl5; obtain ⟨va5, vc5, rfl, _, _⟩ := (Rd.of_own hob5).form; have hq7e := grown_other (hobA _) hgr5 (below_push ((Below.refl _ _).alloc (Nat.le_refl _) _) hq7) (by decide); obtain ⟨y0, y1, y2, y3⟩ := box4s hq7e; have fe := box_frozen hq7e 1)
        | fail)
      obtain ⟨bk, hbk⟩ : ∃ bk : List Value, bk = [.int .i64 kk, .slice ra rn rc, .int .i64 e0, .int .i64 e1, .slice ea en ec, .int .i64 s0, .slice sa sn sc, .slice ga gn gc, .int .i64 p0, .int .i64 p1, .slice fa fn fc, .slice ma mn mc, .slice ja ln lc2] := ⟨_, rfl⟩
      refine wp_abs (fun Z => Z.heap[B7]? = some (.cells #[.string nm, .slice va5 (k + 1) vc5, .slice ya nf yc, .slice none 0 0] 89) ∧ Z.heap[B10]? = some (.cells bk.toArray 106) ∧ Z.ownsRow w0.heap.size 106 13 (.slice va5 (k + 1) vc5) (k + 1) (xs ++ bk) ∧ C0 (.slice va5 (k + 1) vc5) (xs ++ bk) ∧ Z.ownsRow w0.heap.size 109 4 (.slice ya nf yc) nf ys ∧ BlockV Z P (.agg bk.toArray) ∧ MkR P la lc l w0 Z) ?_ ?_
      · obtain ⟨hrk, hof, hq10, hcb, hcf⟩ := HCUR.out
        have hq10e := (hgr5.block B10 (by simp; omega) (fun e1 => HB10.out.2.2.2 B10 e1.symm rfl)).trans (below_push ((Below.refl _ _).alloc (Nat.le_refl _) _) hq10)
        have hT : Turned (fun c => c = B7) w5 (w5.setCell ⟨B7, 1, none⟩ (.slice va5 (k + 1) vc5)) := (Turned.refl _ _).setCell _ _ (.inr rfl)
        have hBV := ((HBV2.out.below (Below.alloc (Below.refl Y2.heap.size Y2) (Nat.le_refl _) _)).row (hobA _) hcb hgr5).box hT (fun a m c e => by rw [y0] at e; cases e)
        rw [hbk]
        exact ⟨heap_set hq7e 1 _, box_set hq10e HB10.out.2.2.1 _, own_boxt hob5 hq7e (by decide) 1 _, C0.app (hobA (.cells #[] 0)) hcb (z := kk) rfl, own_boxt (own_other (own_below hof (Below.alloc (Below.refl Y2.heap.size Y2) (Nat.le_refl _) _)) (hobA _) hgr5 (by decide)) hq7e (by decide) 1 _, hBV, ((hrk.alloc _).own HM0.out hgr5 (fun g hg => ((hobA (.cells #[] 0)).lt g hg).1)).set HM0.out hB7s⟩
      have HYI := hidep hyi
      have hcf := HCUR.out.2.2.2.2
      clear HCUR hobA hob5 hgr5 hq7e hq7 hq10 y0 y1 y2 y3 fe d0 d1 d2 d3 d4 d5 d6 d7 d8 d9 d10 d11 d12 HONE HBV2 hsk hl7 hl10 hyi
      have hbl : bk.length = 13 := by rw [hbk]; rfl
      clear hbk
      rintro Z ⟨hq7, hq10, hob, hcb, hof, hBV, hrz⟩
      have HCB := hidep hcb
      clear hcb
      go_upto_region 16 with (first
        | (go_at_call 52; refine (HT.out _ _ hrz).mono ?_; rintro e w6 ⟨⟨y, rfl, hy0, hy1, _⟩, hr6⟩; have hy2 : y < 2 := hy1 (by decide); have hq7 := hr6.box hq7 hB7P; have hq10 := hr6.box hq10 HB10.out.2.1; have hob := hr6.row hob (by omega); have hof := hr6.row hof (by omega); have hBV := hBV.mkR hr6; have hr6 := hrz.trans hr6)
        | fail)
      obtain ⟨nq, hnq⟩ : ∃ nq : Nat, 1 + y = (nq : Int) := ⟨(1 + y).toNat, by omega⟩
      have hnq2 : nq ≤ 2 := by omega
      rw [hnq]
      clear hnq hy0 hy1 hy2 hrz
      refine wp_loop (LoopI 107 (fun tm ds wr => (slot tm 2) = .pointer (some ⟨B2, 0, none⟩) ∧ (slot tm 3) = .pointer (some ⟨P, 0, none⟩) ∧ (slot tm 4) = .pointer (some ⟨B4, 0, none⟩) ∧ (slot tm 5) = .int .i64 (m : Nat) ∧ (slot tm 6) = .int .i64 (i : Nat) ∧ (slot tm 7) = .pointer (some ⟨B7, 0, none⟩) ∧ (slot tm 8) = .int .i64 (nb : Nat) ∧ (slot tm 9) = .int .i64 (k : Nat) ∧ (slot tm 10) = .pointer (some ⟨B10, 0, none⟩) ∧ (slot tm 11) = .int .i64 (nq : Nat) ∧ ds = [] ∧ FaI P la lc l w0 B7 B10 nq nf nm (.slice va5 (k + 1) vc5) (xs ++ bk) bk k (slot tm 12) wr)) (fun a' wr => nq - (intOf (a'.tmps.getD 12 undef)).toNat) ?factsStart ?factsRound
      case' factsStart => refine LoopI.mk rfl ?_
      case' factsRound => (rintro ⟨t, ds⟩ wr ⟨hts, hrel⟩; dsimp only at hts hrel; rw [frame107 t ds hts])
      case factsStart => exact ⟨rfl, rfl, rfl, rfl, rfl, rfl, rfl, rfl, rfl, rfl, rfl, 0, nf, .slice ya nf yc, ys, Nat.zero_le _, rfl, Nat.le_refl _, hob, hof, hcf, HYI.out, hq7, hq10, hBV, hr6⟩
      clear hq7 hq10 hob hof hcf HYI hBV hr6
      obtain ⟨h2, h3, h4, h5, h6, h7, h8, h9, h10, h11, hds, j, nf2, fv, ys2, hj, h12, hnf2, hob, hof, hcf, hyi, hq7, hq10, hBV, hrw⟩ := hrel
      subst hds
      obtain ⟨ya2, yc2, rfl, _, _⟩ := (Rd.of_own hof).form
      rw [h2, h3, h4, h5, h6, h7, h8, h9, h10, h11, h12]
      clear h2 h3 h4 h5 h6 h7 h8 h9 h10 h11 h12 hts
      by_cases hjq : j < nq
      · have hjqi : (j : Int) < (nq : Int) := by omega
        have HD := hidep (show (∃ d, Try.prog.underlying 106 = some d ∧ d.isRow = true) ∧ (Try.prog.info? 106).map (·.size) = some bk.length from ⟨under_row (by kernel_rfl), by rw [hbl]; kernel_rfl⟩)
        have HL := hidep (show wr.rangeAt B10 0 bk from range_of_box hq10)
        have HBV := hidep hBV
        have hBXs := HB10.out
        clear hBV
        go_upto_region 19 with (first
          | (refine wpList_load_mid (op := ⟨some 69, _, _, _, _, _⟩) rfl 106 _ rfl B10 0 rfl _ _ HL.out HD.out.1.choose_spec.1 HD.out.1.choose_spec.2 HD.out.2 ?_)
          | (go_at_call 54; refine (factM_any _ _ _ (hrw.mk HM0.out) HBV.out).mono ?_; rintro e w5 ⟨⟨x0, x1, x2, x3, rfl⟩, hr5⟩; have hq7 := hr5.box hq7 hB7P; have hq10 := hr5.box hq10 hBXs.2.1; have hob := hr5.row hob (by omega); have hof := hr5.row hof (by omega); have HBV5 := hidep (HBV.out.mkR hr5); have hr5 := hrw.trans hr5)
          | fail)
        refine wp_abs (fun Y => Y.heap[w5.heap.size]? = some (.cells #[.int .i64 x0, .int .i64 x1, .int .i64 x2, .int .i64 x3] 109) ∧ Below w5.heap.size w5 Y) ⟨heap_alloc_new _ _, ((Below.refl _ _).alloc (Nat.le_refl _) _)⟩ ?_
        obtain ⟨B13, hB13⟩ : ∃ B13, B13 = w5.heap.size := ⟨_, rfl⟩
        rw [← hB13]
        rintro Y5 ⟨hq13, hbY⟩
        rw [hB13] at hbY
        have hq7 := below_push hbY hq7
        have hq10 := below_push hbY hq10
        have hob := own_below hob hbY
        have hof := own_below hof hbY
        have HBV6 := hidep (HBV5.out.below hbY)
        have hry := hr5.below hbY
        clear hB13 hbY hr5 hrw HBV HBV5 HL HD
        obtain ⟨y0, y1, y2, y3⟩ := box4s hq7
        obtain ⟨q0, q1, q2, q3⟩ := box4s hq13
        go_upto_if 76 with (first
          | (go_at_call 55; refine (hasF_any _ nf2 ys2 _ x0 x1 x2 x3 _ (Rd.of_own hof) hyi).mono ?_; rintro e w6 ⟨⟨b, rfl⟩, hb6⟩)
          | fail)
        have hq7 := below_push hb6 hq7
        have hq10 := below_push hb6 hq10
        have hq13 := below_push hb6 hq13
        have hob := own_below hob hb6
        have hof := own_below hof hb6
        have hBV := HBV6.out.below hb6
        have hrw := hry.below hb6
        clear hb6 hry HBV6 y0 y1 y2 y3 q0 q1 q2 q3
        cases b with
        | true =>
          go_wp2
          refine ⟨LoopI.mk rfl ⟨rfl, rfl, rfl, rfl, rfl, rfl, rfl, rfl, rfl, rfl, rfl, j + 1, nf2, .slice ya2 nf2 yc2, ys2, by omega, by show Value.int _ _ = _; go_num, by omega, hob, hof, hcf, hyi, hq7, hq10, hBV, hrw⟩, ?_⟩
          show nq - _ < nq - _
          simp [intOf]; omega
        | false =>
          obtain ⟨y0, y1, y2, y3⟩ := box4s hq7
          obtain ⟨q0, q1, q2, q3⟩ := box4s hq13
          have hofA := fun o => own_below hof (Below.alloc (Below.refl w6.heap.size w6) (Nat.le_refl _) o)
          have hs6 := hrw.size
          have HBV := hidep hBV
          have HROW := hidep (And.intro hrw (And.intro hob (And.intro hcf hyi)))
          clear hBV hob hof hrw hcf hyi
          go_wp2_with (first
            | (at_builtin; refine wpList_append_rd _ rfl (.tmp 78) (.tmp 80) rfl slFactR w0.heap.size _ _ _ rfl (hofA _) _ _ _ _ rfl (Rd.fresh w6 #[.int .i64 x0, .int .i64 x1, .int .i64 x2, .int .i64 x3] 109 4 1 rfl (by decide)) (by intro u hu; simp at hu; rcases hu with rfl | rfl | rfl | rfl <;> rfl) (by unfold maxLen; omega) (by omega) (by simp; omega) ?_; intro v2 w7 hof7 hgr7 hat7 hnl7; clear hat7 hnl7; obtain ⟨va7, vc7, rfl, _, _⟩ := (Rd.of_own hof7).form; have hq7e := grown_other (hofA _) hgr7 (below_push ((Below.refl _ _).alloc (Nat.le_refl _) _) hq7) (by decide); have hq10e := grown_other (hofA _) hgr7 (below_push ((Below.refl _ _).alloc (Nat.le_refl _) _) hq10) (by decide); obtain ⟨y0, y1, y2, y3⟩ := box4s hq7e; have fe := box_frozen hq7e 2)
            | fail)
          obtain ⟨hrw, hob, hcf, hyi⟩ := HROW.out
          have hT : Turned (fun c => c = B7) w7 (w7.setCell ⟨B7, 2, none⟩ (.slice va7 (nf2 + 1) vc7)) := (Turned.refl _ _).setCell _ _ (.inr rfl)
          have hBV := ((HBV.out.below (Below.alloc (Below.refl w6.heap.size w6) (Nat.le_refl _) _)).row (hofA _) hcf hgr7).box hT (fun a m c e => by rw [y0] at e; cases e)
          refine ⟨LoopI.mk rfl ⟨rfl, rfl, rfl, rfl, rfl, rfl, rfl, rfl, rfl, rfl, rfl, j + 1, nf2 + 1, .slice va7 (nf2 + 1) vc7, ys2 ++ [.int .i64 x0, .int .i64 x1, .int .i64 x2, .int .i64 x3], by omega, by show Value.int _ _ = _; go_num, by omega, own_boxt (own_other (own_below hob (Below.alloc (Below.refl w6.heap.size w6) (Nat.le_refl _) _)) (hofA _) hgr7 (by decide)) hq7e (by decide) 2 _, own_boxt hof7 hq7e (by decide) 2 _, C0.app (hofA (.cells #[] 0)) hcf (z := x0) rfl, ?_, heap_set hq7e 2 _, box_set hq10e hBXs.2.2.1 _, hBV, ((hrw.alloc _).own HM0.out hgr7 (fun g hg => ((hofA (.cells #[] 0)).lt g hg).1)).set HM0.out hB7s⟩, ?_⟩
          · intro y hy
            rcases List.mem_append.1 hy with h | h
            · exact hyi y h
            · simp at h
              rcases h with rfl | rfl | rfl | rfl <;> exact ⟨_, rfl⟩
          · show nq - _ < nq - _
            simp [intOf]; omega
      · have hjqi : ¬ (j : Int) < (nq : Int) := by omega
        go_wp2
        refine ⟨LoopI.mk rfl ⟨rfl, rfl, rfl, rfl, rfl, rfl, rfl, rfl, k + 1, nf2, .slice va5 (k + 1) vc5, .slice ya2 nf2 yc2, xs ++ bk, ys2, by omega, by show Value.int _ _ = _; go_num, by omega, hob, HCB.out, hof, hcf, hyi, hq7, hrw⟩, ?_⟩
        show nb - _ < nb - _
        simp [intOf]; omega
    · have hkbi : ¬ (k : Int) < (nb : Int) := by omega
      go_upto_region 23 with (first
        | (go_at_call 52; refine (HT.out _ _ hrw).mono ?_; rintro e w3 ⟨⟨y, rfl, hy0, hy1, _⟩, hr3⟩; have hy3 : y < 3 := hy1 (by decide); have hq7 := hr3.box hq7 hB7P; have hob := hr3.row hob (by omega); have hof := hr3.row hof (by omega); have hr3 := hrw.trans hr3)
        | fail)
      obtain ⟨na, hna⟩ : ∃ na : Nat, y = (na : Int) := ⟨y.toNat, by omega⟩
      have hna3 : na ≤ 2 := by omega
      rw [hna]
      clear hna hy0 hy1 hy3 hrw hob hof hcb hcf hyi
      refine wp_loop (LoopI 107 (fun tm ds wr => (slot tm 2) = .pointer (some ⟨B2, 0, none⟩) ∧ (slot tm 3) = .pointer (some ⟨P, 0, none⟩) ∧ (slot tm 4) = .pointer (some ⟨B4, 0, none⟩) ∧ (slot tm 5) = .int .i64 (m : Nat) ∧ (slot tm 6) = .int .i64 (i : Nat) ∧ (slot tm 7) = .pointer (some ⟨B7, 0, none⟩) ∧ (slot tm 14) = .int .i64 (na : Nat) ∧ ds = [] ∧ AsI P la lc l w0 B7 na nm (.slice ba k bc) (.slice ya nf yc) (slot tm 15) wr)) (fun a' wr => na - (intOf (a'.tmps.getD 15 undef)).toNat) ?asksStart ?asksRound
      case' asksStart => refine LoopI.mk rfl ?_
      case' asksRound => (rintro ⟨t, ds⟩ wr ⟨hts, hrel⟩; dsimp only at hts hrel; rw [frame107 t ds hts])
      case asksStart => exact ⟨rfl, rfl, rfl, rfl, rfl, rfl, rfl, rfl, 0, [], .slice none 0 0, [], Nat.zero_le _, rfl, rfl, World.ownsRow_nil _ _ _ _, (fun j hj => by cases hj), (by simp), hq7, hr3⟩
      clear hq7 hr3
      obtain ⟨h2, h3, h4, h5, h6, h7, h14, hds, q, qs, av, cs, hq, h15, hql, hoa, hQC, hQk, hq7, hrw⟩ := hrel
      subst hds
      obtain ⟨aa, ac, rfl, _, _⟩ := (Rd.of_own hoa).form
      rw [h2, h3, h4, h5, h6, h7, h14, h15]
      clear h2 h3 h4 h5 h6 h7 h14 h15 hts
      by_cases hqa : q < na
      · have hqai : (q : Int) < (na : Int) := by omega
        have hnf6 : nf ≤ 1000 := by omega
        go_upto_region 25 with (fail)
        obtain ⟨y0, y1, y2, y3⟩ := box4s hq7
        have hcl : cs.length = qs.length * 7 := by rw [hql]; exact hoa.1
        refine wp_region_noPanic (wp_region_held_drew (S := (fun Y => MkR P la lc l w0 Y ∧ Y.cell? ⟨B7, 2, none⟩ = some (.slice ya nf yc))) (by kernel_rfl) ?hS29r25n0 (fun hHeld => ?hR29r25n0))
        case hS29r25n0 => ((try dsimp only); (first | exact And.intro hrw y2 | exact And.intro hrw.drew y2))
        refine wpAnyH_take (i := 0) (v := ?v29r25n0q1) rfl (by kernel_rfl) (by kernel_rfl) (by kernel_rfl) (fun _ _ _ h => h) (Or.inl ⟨by kernel_rfl, ?hy29r25n0q1⟩) (by assumption) ?hr29r25n0q1
        case hy29r25n0q1 => (intro w hSw; (try dsimp only at hSw); (obtain ⟨_, u2⟩ := hSw); first | (go_simp; done) | (go_simp; with_reducible rfl))
        refine wpAnyH_take (i := 2) (v := ?v29r25n0q2) rfl (by kernel_rfl) (by kernel_rfl) (by kernel_rfl) (fun _ _ _ h => h) (Or.inl ⟨by kernel_rfl, ?hy29r25n0q2⟩) (by assumption) ?hr29r25n0q2
        case hy29r25n0q2 => (intro w hSw; (try dsimp only at hSw); (obtain ⟨_, u2⟩ := hSw); first | (go_simp; done) | (go_simp; with_reducible rfl))
        refine wpAnyH_take (i := 3) (v := ?v29r25n0q3) rfl (by kernel_rfl) (by kernel_rfl) (by kernel_rfl) (fun _ _ _ h => h) (Or.inl ⟨by kernel_rfl, ?hy29r25n0q3⟩) (by assumption) ?hr29r25n0q3
        case hy29r25n0q3 => (intro w hSw; (try dsimp only at hSw); (obtain ⟨_, u2⟩ := hSw); first | (go_simp; done) | (go_simp; with_reducible rfl))
        refine wpAnyH_take (i := 4) (v := ?v29r25n0q4) rfl (by kernel_rfl) (by kernel_rfl) (by kernel_rfl) (fun _ _ _ h => h) (Or.inl ⟨by kernel_rfl, ?hy29r25n0q4⟩) (by assumption) ?hr29r25n0q4
        case hy29r25n0q4 => (intro w hSw; (try dsimp only at hSw); (obtain ⟨_, u2⟩ := hSw); first | (go_simp; done) | (go_simp; with_reducible rfl))
        refine wpAnyH_take (i := 5) (v := ?v29r25n0q5) rfl (by kernel_rfl) (by kernel_rfl) (by kernel_rfl) (fun _ _ _ h => h) (Or.inl ⟨by kernel_rfl, ?hy29r25n0q5⟩) (by assumption) ?hr29r25n0q5
        case hy29r25n0q5 => (intro w hSw; (try dsimp only at hSw); (obtain ⟨_, u2⟩ := hSw); first | (go_simp; done) | (go_simp; with_reducible rfl))
        refine wpAnyH_ready (rs := [1, 6]) (by kernel_rfl) (by simp) (AllReadyH.cons rfl (fun K hK => ?hc29r25n0q6) (AllReadyH.cons rfl (fun K hK => ?hc29r25n0q7) AllReadyH.nil))
        case' hc29r25n0q6 =>
          go_simp
          refine hK.out _ _ ?hs29r25n0q6 (fun hHeld29r25n0q6 => ?ht29r25n0q6)
          case hs29r25n0q6 => ((try dsimp only); (first | (with_reducible exact hHeld) | exact hk | exact And.intro hk.1.drew hk.2 | exact And.intro (hk.1.set HM0.out hB7s) (box4s (heap_set hq7 3 _)).2.2.1 | exact And.intro (hk.1.set HM0.out hB7s).drew (box4s (heap_set hq7 3 _)).2.2.1))
          clear hHeld hK
          have hHeld := hHeld29r25n0q6
          clear hHeld29r25n0q6
          refine wpAnyH_ready (rs := [6]) (by kernel_rfl) (by simp) (AllReadyH.cons rfl (fun K hK => ?hc29r25n0q8) AllReadyH.nil)
          go_simp
          (go_at_call 56; refine (questM_any nf hnf6 _ (hHeld.1.mk HM0.out)).mono ?_; rintro e wt ⟨⟨v, rfl, kq, pq, sq, a1, a2, na', a6, n1, c1, n2, c2, nc, n6, c6, L, rfl, hLn, hIL⟩, hrt⟩; have hq7 := hrt.box hq7 hB7P; have hoa := hrt.row hoa (by omega); have hQC := hQC.keeps (hrt.keeps (hHeld.1.mk HM0.out) (by decide)); obtain ⟨y0, y1, y2, y3⟩ := box4s hq7; have hk := And.intro (MkR.trans hHeld.1 hrt) y2; (try dsimp only [questC]))
          refine hK.out _ _ ?hs29r25n0q8 (fun hHeld29r25n0q8 => ?ht29r25n0q8)
          case hs29r25n0q8 => ((try dsimp only); (first | (with_reducible exact hHeld) | exact hk | exact And.intro hk.1.drew hk.2 | exact And.intro (hk.1.set HM0.out hB7s) (box4s (heap_set hq7 3 _)).2.2.1 | exact And.intro (hk.1.set HM0.out hB7s).drew (box4s (heap_set hq7 3 _)).2.2.1))
          clear hHeld hK
          have hHeld := hHeld29r25n0q8
          clear hHeld29r25n0q8
          refine wpAnyH_ready (rs := [7]) (by kernel_rfl) (by simp) (AllReadyH.cons rfl (fun K hK => ?hc29r25n0q9) AllReadyH.nil)
          go_simp
          ((first | refine intro_alloc (fun XB hBX hLB => ?_) | refine intro_alloc_drew (fun XB hBX hLB => ?_)); have hq7 := below_push hBX hq7; have hoa := own_below hoa hBX; have hQC := hQC.keeps (Keeps.below _ hBX); have hIL := hIL.keeps (Keeps.below _ hBX); obtain ⟨y0, y1, y2, y3⟩ := box4s hq7; have hk := And.intro (mkr_alloc (by first | exact hHeld.1 | exact undrew_mkr hHeld.1) hBX) y2; (try dsimp only))
          refine hK.out _ _ ?hs29r25n0q9 (fun hHeld29r25n0q9 => ?ht29r25n0q9)
          case hs29r25n0q9 => ((try dsimp only); (first | (with_reducible exact hHeld) | exact hk | exact And.intro hk.1.drew hk.2 | exact And.intro (hk.1.set HM0.out hB7s) (box4s (heap_set hq7 3 _)).2.2.1 | exact And.intro (hk.1.set HM0.out hB7s).drew (box4s (heap_set hq7 3 _)).2.2.1))
          clear hHeld hK
          have hHeld := hHeld29r25n0q9
          clear hHeld29r25n0q9
          refine wpAnyH_ready (rs := [8]) (by kernel_rfl) (by simp) (AllReadyH.cons rfl (fun K hK => ?hc29r25n0q10) AllReadyH.nil)
          (refine step_append_rd _ (by rfl) (.tmp 91) (.tmp 97) (by rfl) slQuestR w0.heap.size (.slice aa q ac) _ _ (by rfl) (by exact hoa) _ _ _ _ (by rfl) (by exact rd_lit hLB rfl) (by intro u hu; simp at hu; rcases hu with rfl | rfl | rfl | rfl | rfl | rfl | rfl <;> rfl) (by unfold maxLen; omega) (by omega) (MkR.size hHeld.1) ?_; intro v4 w4 hoa4 hgr4 hat4 hnl4; obtain ⟨va4, vc4, rfl, _, _⟩ := (Rd.of_own hoa4).form; have hkt := Keeps.grown (T := fun t => t = 3) hoa hgr4 (by rintro t rfl; decide); have hQC := hQC.keeps hkt; have hIL := hIL.keeps hkt; have hq7 := grown_other hoa hgr4 hq7 (by decide); obtain ⟨y0, y1, y2, y3⟩ := box4s hq7; have fe := box_frozen hq7 3; have hk := And.intro (MkR.own hHeld.1 HM0.out hgr4 (fun g hg => (hoa.lt g hg).1)) y2; (try dsimp only))
          refine hK.out _ _ ?hs29r25n0q10 (fun hHeld29r25n0q10 => ?ht29r25n0q10)
          case hs29r25n0q10 => ((try dsimp only); (first | (with_reducible exact hHeld) | exact hk | exact And.intro hk.1.drew hk.2 | exact And.intro (hk.1.set HM0.out hB7s) (box4s (heap_set hq7 3 _)).2.2.1 | exact And.intro (hk.1.set HM0.out hB7s).drew (box4s (heap_set hq7 3 _)).2.2.1))
          clear hHeld hK
          have hHeld := hHeld29r25n0q10
          clear hHeld29r25n0q10
          refine wpAnyH_take (i := 9) (v := ?v29r25n0q11) rfl (by kernel_rfl) (by kernel_rfl) (by kernel_rfl) (fun _ _ _ h => h) (Or.inl ⟨by kernel_rfl, ?hy29r25n0q11⟩) (by assumption) ?hr29r25n0q11
          case hy29r25n0q11 => (intro w hSw; (try dsimp only at hSw); (obtain ⟨_, u2⟩ := hSw); first | (go_simp; done) | (go_simp; with_reducible rfl))
          refine wpAnyH_ready (rs := [10]) (by kernel_rfl) (by simp) (AllReadyH.cons rfl (fun K hK => ?hc29r25n0q12) AllReadyH.nil)
          go_simp
          refine hK.out _ _ ?hs29r25n0q12 (fun hHeld29r25n0q12 => ?ht29r25n0q12)
          case hs29r25n0q12 => ((try dsimp only); (first | (with_reducible exact hHeld) | exact hk | exact And.intro hk.1.drew hk.2 | exact And.intro (hk.1.set HM0.out hB7s) (box4s (heap_set hq7 3 _)).2.2.1 | exact And.intro (hk.1.set HM0.out hB7s).drew (box4s (heap_set hq7 3 _)).2.2.1))
          clear hHeld hK
          have hHeld := hHeld29r25n0q12
          clear hHeld29r25n0q12
          refine wpAnyH_done (by kernel_rfl) ?_ _
          clear hHeld
          refine NoPanic.normal ?_
        case' hc29r25n0q7 =>
          go_simp
          (go_at_call 56; refine (questM_any nf hnf6 _ (hHeld.1.mk HM0.out)).mono ?_; rintro e wt ⟨⟨v, rfl, kq, pq, sq, a1, a2, na', a6, n1, c1, n2, c2, nc, n6, c6, L, rfl, hLn, hIL⟩, hrt⟩; have hq7 := hrt.box hq7 hB7P; have hoa := hrt.row hoa (by omega); have hQC := hQC.keeps (hrt.keeps (hHeld.1.mk HM0.out) (by decide)); obtain ⟨y0, y1, y2, y3⟩ := box4s hq7; have hk := And.intro (MkR.trans hHeld.1 hrt) y2; (try dsimp only [questC]))
          refine hK.out _ _ ?hs29r25n0q7 (fun hHeld29r25n0q7 => ?ht29r25n0q7)
          case hs29r25n0q7 => ((try dsimp only); (first | (with_reducible exact hHeld) | exact hk | exact And.intro hk.1.drew hk.2 | exact And.intro (hk.1.set HM0.out hB7s) (box4s (heap_set hq7 3 _)).2.2.1 | exact And.intro (hk.1.set HM0.out hB7s).drew (box4s (heap_set hq7 3 _)).2.2.1))
          clear hHeld hK
          have hHeld := hHeld29r25n0q7
          clear hHeld29r25n0q7
          refine wpAnyH_ready (rs := [1, 7]) (by kernel_rfl) (by simp) (AllReadyH.cons rfl (fun K hK => ?hc29r25n0q13) (AllReadyH.cons rfl (fun K hK => ?hc29r25n0q14) AllReadyH.nil))
          case' hc29r25n0q13 =>
            go_simp
            refine hK.out _ _ ?hs29r25n0q13 (fun hHeld29r25n0q13 => ?ht29r25n0q13)
            case hs29r25n0q13 => ((try dsimp only); (first | (with_reducible exact hHeld) | exact hk | exact And.intro hk.1.drew hk.2 | exact And.intro (hk.1.set HM0.out hB7s) (box4s (heap_set hq7 3 _)).2.2.1 | exact And.intro (hk.1.set HM0.out hB7s).drew (box4s (heap_set hq7 3 _)).2.2.1))
            clear hHeld hK
            have hHeld := hHeld29r25n0q13
            clear hHeld29r25n0q13
            refine wpAnyH_ready (rs := [7]) (by kernel_rfl) (by simp) (AllReadyH.cons rfl (fun K hK => ?hc29r25n0q15) AllReadyH.nil)
            go_simp
            ((first | refine intro_alloc (fun XB hBX hLB => ?_) | refine intro_alloc_drew (fun XB hBX hLB => ?_)); have hq7 := below_push hBX hq7; have hoa := own_below hoa hBX; have hQC := hQC.keeps (Keeps.below _ hBX); have hIL := hIL.keeps (Keeps.below _ hBX); obtain ⟨y0, y1, y2, y3⟩ := box4s hq7; have hk := And.intro (mkr_alloc (by first | exact hHeld.1 | exact undrew_mkr hHeld.1) hBX) y2; (try dsimp only))
            refine hK.out _ _ ?hs29r25n0q15 (fun hHeld29r25n0q15 => ?ht29r25n0q15)
            case hs29r25n0q15 => ((try dsimp only); (first | (with_reducible exact hHeld) | exact hk | exact And.intro hk.1.drew hk.2 | exact And.intro (hk.1.set HM0.out hB7s) (box4s (heap_set hq7 3 _)).2.2.1 | exact And.intro (hk.1.set HM0.out hB7s).drew (box4s (heap_set hq7 3 _)).2.2.1))
            clear hHeld hK
            have hHeld := hHeld29r25n0q15
            clear hHeld29r25n0q15
            refine wpAnyH_ready (rs := [8]) (by kernel_rfl) (by simp) (AllReadyH.cons rfl (fun K hK => ?hc29r25n0q16) AllReadyH.nil)
            (refine step_append_rd _ (by rfl) (.tmp 91) (.tmp 97) (by rfl) slQuestR w0.heap.size (.slice aa q ac) _ _ (by rfl) (by exact hoa) _ _ _ _ (by rfl) (by exact rd_lit hLB rfl) (by intro u hu; simp at hu; rcases hu with rfl | rfl | rfl | rfl | rfl | rfl | rfl <;> rfl) (by unfold maxLen; omega) (by omega) (MkR.size hHeld.1) ?_; intro v4 w4 hoa4 hgr4 hat4 hnl4; obtain ⟨va4, vc4, rfl, _, _⟩ := (Rd.of_own hoa4).form; have hkt := Keeps.grown (T := fun t => t = 3) hoa hgr4 (by rintro t rfl; decide); have hQC := hQC.keeps hkt; have hIL := hIL.keeps hkt; have hq7 := grown_other hoa hgr4 hq7 (by decide); obtain ⟨y0, y1, y2, y3⟩ := box4s hq7; have fe := box_frozen hq7 3; have hk := And.intro (MkR.own hHeld.1 HM0.out hgr4 (fun g hg => (hoa.lt g hg).1)) y2; (try dsimp only))
            refine hK.out _ _ ?hs29r25n0q16 (fun hHeld29r25n0q16 => ?ht29r25n0q16)
            case hs29r25n0q16 => ((try dsimp only); (first | (with_reducible exact hHeld) | exact hk | exact And.intro hk.1.drew hk.2 | exact And.intro (hk.1.set HM0.out hB7s) (box4s (heap_set hq7 3 _)).2.2.1 | exact And.intro (hk.1.set HM0.out hB7s).drew (box4s (heap_set hq7 3 _)).2.2.1))
            clear hHeld hK
            have hHeld := hHeld29r25n0q16
            clear hHeld29r25n0q16
            refine wpAnyH_take (i := 9) (v := ?v29r25n0q17) rfl (by kernel_rfl) (by kernel_rfl) (by kernel_rfl) (fun _ _ _ h => h) (Or.inl ⟨by kernel_rfl, ?hy29r25n0q17⟩) (by assumption) ?hr29r25n0q17
            case hy29r25n0q17 => (intro w hSw; (try dsimp only at hSw); (obtain ⟨_, u2⟩ := hSw); first | (go_simp; done) | (go_simp; with_reducible rfl))
            refine wpAnyH_ready (rs := [10]) (by kernel_rfl) (by simp) (AllReadyH.cons rfl (fun K hK => ?hc29r25n0q18) AllReadyH.nil)
            go_simp
            refine hK.out _ _ ?hs29r25n0q18 (fun hHeld29r25n0q18 => ?ht29r25n0q18)
            case hs29r25n0q18 => ((try dsimp only); (first | (with_reducible exact hHeld) | exact hk | exact And.intro hk.1.drew hk.2 | exact And.intro (hk.1.set HM0.out hB7s) (box4s (heap_set hq7 3 _)).2.2.1 | exact And.intro (hk.1.set HM0.out hB7s).drew (box4s (heap_set hq7 3 _)).2.2.1))
            clear hHeld hK
            have hHeld := hHeld29r25n0q18
            clear hHeld29r25n0q18
            refine wpAnyH_done (by kernel_rfl) ?_ _
            clear hHeld
            refine NoPanic.normal ?_
          case' hc29r25n0q14 =>
            go_simp
            ((first | refine intro_alloc (fun XB hBX hLB => ?_) | refine intro_alloc_drew (fun XB hBX hLB => ?_)); have hq7 := below_push hBX hq7; have hoa := own_below hoa hBX; have hQC := hQC.keeps (Keeps.below _ hBX); have hIL := hIL.keeps (Keeps.below _ hBX); obtain ⟨y0, y1, y2, y3⟩ := box4s hq7; have hk := And.intro (mkr_alloc (by first | exact hHeld.1 | exact undrew_mkr hHeld.1) hBX) y2; (try dsimp only))
            refine hK.out _ _ ?hs29r25n0q14 (fun hHeld29r25n0q14 => ?ht29r25n0q14)
            case hs29r25n0q14 => ((try dsimp only); (first | (with_reducible exact hHeld) | exact hk | exact And.intro hk.1.drew hk.2 | exact And.intro (hk.1.set HM0.out hB7s) (box4s (heap_set hq7 3 _)).2.2.1 | exact And.intro (hk.1.set HM0.out hB7s).drew (box4s (heap_set hq7 3 _)).2.2.1))
            clear hHeld hK
            have hHeld := hHeld29r25n0q14
            clear hHeld29r25n0q14
            refine wpAnyH_ready (rs := [1]) (by kernel_rfl) (by simp) (AllReadyH.cons rfl (fun K hK => ?hc29r25n0q19) AllReadyH.nil)
            go_simp
            refine hK.out _ _ ?hs29r25n0q19 (fun hHeld29r25n0q19 => ?ht29r25n0q19)
            case hs29r25n0q19 => ((try dsimp only); (first | (with_reducible exact hHeld) | exact hk | exact And.intro hk.1.drew hk.2 | exact And.intro (hk.1.set HM0.out hB7s) (box4s (heap_set hq7 3 _)).2.2.1 | exact And.intro (hk.1.set HM0.out hB7s).drew (box4s (heap_set hq7 3 _)).2.2.1))
            clear hHeld hK
            have hHeld := hHeld29r25n0q19
            clear hHeld29r25n0q19
            refine wpAnyH_ready (rs := [8]) (by kernel_rfl) (by simp) (AllReadyH.cons rfl (fun K hK => ?hc29r25n0q20) AllReadyH.nil)
            (refine step_append_rd _ (by rfl) (.tmp 91) (.tmp 97) (by rfl) slQuestR w0.heap.size (.slice aa q ac) _ _ (by rfl) (by exact hoa) _ _ _ _ (by rfl) (by exact rd_lit hLB rfl) (by intro u hu; simp at hu; rcases hu with rfl | rfl | rfl | rfl | rfl | rfl | rfl <;> rfl) (by unfold maxLen; omega) (by omega) (MkR.size hHeld.1) ?_; intro v4 w4 hoa4 hgr4 hat4 hnl4; obtain ⟨va4, vc4, rfl, _, _⟩ := (Rd.of_own hoa4).form; have hkt := Keeps.grown (T := fun t => t = 3) hoa hgr4 (by rintro t rfl; decide); have hQC := hQC.keeps hkt; have hIL := hIL.keeps hkt; have hq7 := grown_other hoa hgr4 hq7 (by decide); obtain ⟨y0, y1, y2, y3⟩ := box4s hq7; have fe := box_frozen hq7 3; have hk := And.intro (MkR.own hHeld.1 HM0.out hgr4 (fun g hg => (hoa.lt g hg).1)) y2; (try dsimp only))
            refine hK.out _ _ ?hs29r25n0q20 (fun hHeld29r25n0q20 => ?ht29r25n0q20)
            case hs29r25n0q20 => ((try dsimp only); (first | (with_reducible exact hHeld) | exact hk | exact And.intro hk.1.drew hk.2 | exact And.intro (hk.1.set HM0.out hB7s) (box4s (heap_set hq7 3 _)).2.2.1 | exact And.intro (hk.1.set HM0.out hB7s).drew (box4s (heap_set hq7 3 _)).2.2.1))
            clear hHeld hK
            have hHeld := hHeld29r25n0q20
            clear hHeld29r25n0q20
            refine wpAnyH_take (i := 9) (v := ?v29r25n0q21) rfl (by kernel_rfl) (by kernel_rfl) (by kernel_rfl) (fun _ _ _ h => h) (Or.inl ⟨by kernel_rfl, ?hy29r25n0q21⟩) (by assumption) ?hr29r25n0q21
            case hy29r25n0q21 => (intro w hSw; (try dsimp only at hSw); (obtain ⟨_, u2⟩ := hSw); first | (go_simp; done) | (go_simp; with_reducible rfl))
            refine wpAnyH_ready (rs := [10]) (by kernel_rfl) (by simp) (AllReadyH.cons rfl (fun K hK => ?hc29r25n0q22) AllReadyH.nil)
            go_simp
            refine hK.out _ _ ?hs29r25n0q22 (fun hHeld29r25n0q22 => ?ht29r25n0q22)
            case hs29r25n0q22 => ((try dsimp only); (first | (with_reducible exact hHeld) | exact hk | exact And.intro hk.1.drew hk.2 | exact And.intro (hk.1.set HM0.out hB7s) (box4s (heap_set hq7 3 _)).2.2.1 | exact And.intro (hk.1.set HM0.out hB7s).drew (box4s (heap_set hq7 3 _)).2.2.1))
            clear hHeld hK
            have hHeld := hHeld29r25n0q22
            clear hHeld29r25n0q22
            refine wpAnyH_done (by kernel_rfl) ?_ _
            clear hHeld
            refine NoPanic.normal ?_
        all_goals
          (try dsimp only [Exit.inBlock, Exit.then])
          have hks := Keeps.setCell (T := fun t => t = 3) (a := ⟨B7, 3, none⟩) hq7 (by rintro t rfl; decide) (.slice va4 (q + 1) vc4)
          have HFIN := hidep (And.intro (hQC.keeps hks) (And.intro (hIL.keeps hks) (And.intro hoa4 (And.intro hq7 (And.intro hk.1 (And.intro hQk hLn))))))
          clear hks hQC hIL hoa hoa4 hq7 hk hQk hLn y0 y1 y2 y3 fe hrw
          go_wp2
          obtain ⟨hQC, hIL, hoa4, hq7, hk, hQk, hLn⟩ := HFIN.out
          refine ⟨LoopI.mk rfl ⟨rfl, rfl, rfl, rfl, rfl, rfl, rfl, rfl, q + 1, qs ++ [L], .slice va4 (q + 1) vc4, _, by omega, by show Value.int _ _ = _; go_num, by simp [hql], own_boxt hoa4 hq7 (by decide) 3 _, ?_, ?_, heap_set hq7 3 _, by first | exact hk.set HM0.out hB7s | exact (hk.set HM0.out hB7s).drew⟩, ?_⟩
          · exact hQC.snoc hcl kq pq sq a1 a2 na' a6 n1 c1 n2 c2 nc n6 c6 L hIL
          · intro xs hxs
            rcases List.mem_append.1 hxs with h | h
            · exact hQk xs h
            · have h2 : xs = L := by simpa using h
              subst h2
              omega
          · show na - _ < na - _
            simp [intOf]; omega
      · have hqai : ¬ (q : Int) < (na : Int) := by omega
        have hq4 := hrw.box HI.out.2.2.1 (show B4 ≠ P by omega)
        have hown := hrw.row HI.out.1 (show P < X.heap.size by omega)
        have HK := hidep (show Keeps TQ w0 wr from hrw.keeps HM0.out (by rintro (h | h) <;> revert h <;> decide))
        have hrX := HI.out.2.2.2.trans hrw
        have HXW := hidep (And.intro hrX (And.intro hoa (And.intro hQC hQk)))
        obtain ⟨y0, y1, y2, y3⟩ := box4s hq7
        obtain ⟨z0, z1⟩ := box2_cells hq4
        have hl4 := lt_of_block hq4
        have hownA := fun o => own_below hown (Below.alloc (Below.refl wr.heap.size wr) (Nat.le_refl _) o)
        have hsX := hrX.size
        clear hrX hoa hQC hQk hrw hown
        go_wp2_with (first
          | (at_builtin; refine wpList_append_rd _ rfl (.tmp 101) (.tmp 103) rfl slItemR X.heap.size _ _ _ rfl (hownA _) _ _ _ _ rfl (Rd.fresh wr #[.string nm, .slice ba k bc, .slice ya nf yc, .slice aa q ac] 89 4 1 rfl (by decide)) (by intro u hu; simp at hu; rcases hu with rfl | rfl | rfl | rfl <;> rfl) (by unfold maxLen; omega) (by omega) (by simp; omega) ?_; intro v2 w5 hown5 hgr5 hat5 hnl5; clear hat5 hnl5; obtain ⟨va5, vc5, rfl, _, _⟩ := (Rd.of_own hown5).form; have hq4e := grown_other (hownA _) hgr5 (below_push ((Below.refl _ _).alloc (Nat.le_refl _) _) hq4) (by decide); obtain ⟨z0, z1⟩ := box2_cells hq4e; have fe := box_frozen hq4e 1)
          | fail)
        have hse := hgr5.size
        simp only [World.size_alloc] at hse
        have hkq : Keeps TQ wr (w5.setCell ⟨B4, 1, none⟩ (.slice va5 (i + 1) vc5)) := ((Keeps.alloc TQ wr _).trans (Keeps.grown (hownA _) hgr5 (by rintro t (rfl | rfl) <;> decide))).trans (Keeps.setCell (a := ⟨B4, 1, none⟩) hq4e (by rintro t (rfl | rfl) <;> decide) _)
        refine ⟨LoopI.mk rfl ⟨rfl, rfl, rfl, rfl, rfl, i + 1, R ++ [qs], .slice va5 (i + 1) vc5, _, by omega, by show Value.int _ _ = _; go_num, by simp [hR], own_boxt hown5 hq4e (by decide) 1 _, ?_, ?_, heap_set hq4e 1 _, ((HXW.out.1.alloc _).own HM.out hgr5 (fun g hg => ((hownA (.cells #[] 0)).lt g hg).1)).set HM.out hB4X⟩, ?_⟩
        · have hlen := HI.out.1.1
          have hq2 := (HI.out.2.1.keeps HK.out).keeps hkq
          rw [← hql]
          exact hq2.snoc (by rw [hlen, hR]) nm ba ya aa k bc nf yc ac qs (QuestsOf.keeps ⟨cs, by rw [hql]; exact Rd.of_own HXW.out.2.1, HXW.out.2.2.1⟩ hkq)
        · intro xs hxs
          rcases List.mem_append.1 hxs with h | h
          · exact HROk.out xs h
          · have h2 : xs = qs := by simpa using h
            subst h2
            exact ⟨by omega, HXW.out.2.2.2⟩
        · show m - _ < m - _
          simp [intOf]; omega
  · have hlti : ¬ (i : Int) < (m : Int) := by omega
    obtain ⟨z0, z1⟩ := box2_cells (HQ2.out _ hrw)
    obtain ⟨y0, y1⟩ := box2_cells hq4
    have f0 := box_frozen (HQ2.out _ hrw) 0
    have f1 := box_frozen (HQ2.out _ hrw) 1
    have HEND := hidep (show (((wr.setCell ⟨B2, 0, none⟩ (.string ttl)).setCell ⟨B2, 1, none⟩ (.slice ia0 i ic0)).heap[B2]? = some (.cells #[.string ttl, .slice ia0 i ic0] 57)) ∧ Turned (fun b => b = B2) wr ((wr.setCell ⟨B2, 0, none⟩ (.string ttl)).setCell ⟨B2, 1, none⟩ (.slice ia0 i ic0)) from ⟨heap_set (heap_set (HQ2.out _ hrw) 0 _) 1 _, ((Turned.refl (fun b => b = B2) wr).setCell _ _ (.inr rfl)).setCell _ _ (.inr rfl)⟩)
    have HOWN := hidep hown
    have HIC := hidep hIC
    have HRW := hidep hrw
    have HRO := hidep hROk
    have HKQ := hidep (show Keeps TQ wr ((wr.setCell ⟨B2, 0, none⟩ (.string ttl)).setCell ⟨B2, 1, none⟩ (.slice ia0 i ic0)) from (Keeps.setCell (HQ2.out _ hrw) (by rintro t (rfl | rfl) <;> decide) _).trans (Keeps.setCell (a := ⟨B2, 1, none⟩) (heap_set (HQ2.out _ hrw) 0 _) (by rintro t (rfl | rfl) <;> decide) _))
    clear hown hIC hrw hROk hq4
    go_wp2
    refine bodyPost_ret (results_cell1 rfl _ _ _ rfl (load_exam _ B2 _ _ (box2_cells HEND.out.1).1 (box2_cells HEND.out.1).2)) rfl ?_
    have hown2 := ownsRow_turned HOWN.out HEND.out.2 (fun g hg => by have := (HOWN.out.lt g hg).1; omega)
    subst hR
    refine ⟨⟨_, rfl, R, exam_at ttl (Rd.of_own hown2) (HIC.out.keeps HKQ.out), ⟨by omega, HRO.out⟩, by omega⟩, ?_⟩
    have hb := HLOW.out _ HRW.out.2
    exact ⟨HEND.out.2.os.trans hb.os, HEND.out.2.tape.trans hb.tape, HEND.out.2.output.trans hb.output, Nat.le_trans hb.size HEND.out.2.size, fun b hlt => (HEND.out.2.block b (Nat.lt_of_lt_of_le hlt hb.size) (by have := HB2.out; omega)).trans (hb.block b hlt)⟩
end Go.Proofs.Ytfljgcpfmhhgcaa
