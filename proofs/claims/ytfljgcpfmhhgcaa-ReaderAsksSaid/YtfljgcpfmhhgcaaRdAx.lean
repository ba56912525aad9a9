/- An examination in memory as far as Ask reads it, and what Ask answers, plain. -/
import Derived.Test.YtfljgcpfmhhgcaaRdNq
import Derived.Test.YtfljgcpfmhhgcaaRdBr
import Derived.Test.YtfljgcpfmhhgcaaRdA
namespace Go.Proofs.Ytfljgcpfmhhgcaa
open Go.RowKit Go.Lab
/-- Both plans are the same. -/
theorem best_gen2 (way : Int) (pl : List Pl) (need : List Int) (pv nv : Value) (hok : ∀ p ∈ pl, PlOk p) (w : World) (hp : PlacesAt w pv pl) (hn : IntsAt w nv need) (o : List Int) (s ez : Int) (tb : List (List Int))
    (h0 : ez = taskZ way pl.length need) (h1 : o = if taskZ way pl.length need = 0 then orderZ way (needL pl need) need else []) (h2 : s = if taskZ way pl.length need = 0 then restV way (needL pl need) (2 ^ need.length - 1) pl0 else 0) (h3 : tb = if taskZ way pl.length need = 0 then tabL way (needL pl need) else []) :
    (Calls Try.prog 18 #[.int .i64 way, pv, nv] w fun e w' => Below w.heap.size w w' ∧ ∃ oa oc la lc, e = .returned (.tuple #[.agg #[.slice oa o.length oc, .int .i64 s, .slice la tb.length lc], .int .i64 ez]) ∧ IntsOf TkR w' (.slice oa o.length oc) o ∧ TabOf TkR w' (.slice la tb.length lc) tb) ∧
    (Calls Try.prog 19 #[.int .i64 way, pv, nv] w fun e w' => Below w.heap.size w w' ∧ ∃ oa oc la lc, e = .returned (.tuple #[.agg #[.slice oa o.length oc, .int .i64 s, .slice la tb.length lc], .int .i64 ez]) ∧ IntsOf TkR w' (.slice oa o.length oc) o ∧ TabOf TkR w' (.slice la tb.length lc) tb) := by
  constructor
  · refine (best_any way pl need pv nv hok w hp hn).mono ?_
    rintro e w' ⟨hb, vo, vl, rfl, ho, hl⟩
    rw [← h1] at ho
    rw [← h3] at hl
    obtain ⟨oa, oc, rfl, _, _⟩ := ho.1.form
    obtain ⟨la, lc, rfl, _, _⟩ := TabOf.form hl
    exact ⟨hb, oa, oc, la, lc, by rw [h0, h2]; rfl, ho, hl⟩
  · refine (best30_any way pl need pv nv hok w hp hn).mono ?_
    rintro e w' ⟨hb, vo, vl, rfl, ho, hl⟩
    rw [← h1] at ho
    rw [← h3] at hl
    obtain ⟨oa, oc, rfl, _, _⟩ := ho.1.form
    obtain ⟨la, lc, rfl, _, _⟩ := TabOf.form hl
    exact ⟨hb, oa, oc, la, lc, by rw [h0, h2]; rfl, ho, hl⟩
/-- The questions of an item: of each the list of the facts that it needs. -/
def QuestAt (w : World) (v : Value) (qs : List (List Int)) : Prop := ∃ (a : Option Addr) (c : Nat), v = .slice a qs.length c ∧ qs.length ≤ c ∧ c ≤ maxLen ∧ ∀ (j : Nat) (h : j < qs.length), ∃ (b off : Nat) (k p : Int) (s4 : ByteArray) (a1 a2 na a6 : Option Addr) (n1 c1 n2 c2 nc n6 c6 : Nat), a = some ⟨b, off, none⟩ ∧ b < w.heap.size ∧
  w.cell? ⟨b, off + j * 7, none⟩ = some (.int .i64 k) ∧ w.cell? ⟨b, off + j * 7 + 1, none⟩ = some (.slice a1 n1 c1) ∧ w.cell? ⟨b, off + j * 7 + 2, none⟩ = some (.slice a2 n2 c2) ∧ w.cell? ⟨b, off + j * 7 + 3, none⟩ = some (.slice na qs[j].length nc) ∧ w.cell? ⟨b, off + j * 7 + 4, none⟩ = some (.string s4) ∧ w.cell? ⟨b, off + j * 7 + 5, none⟩ = some (.int .i64 p) ∧ w.cell? ⟨b, off + j * 7 + 6, none⟩ = some (.slice a6 n6 c6) ∧ IntsAt w (.slice na qs[j].length nc) qs[j]
theorem QuestAt.below {w w' : World} {v : Value} {qs : List (List Int)} (h : QuestAt w v qs) (hb : Below w.heap.size w w') : QuestAt w' v qs := by
  obtain ⟨a, c, h1, h2, h3, h4⟩ := h
  refine ⟨a, c, h1, h2, h3, fun j hj => ?_⟩
  obtain ⟨b, off, k, p, s4, a1, a2, na, a6, n1, c1, n2, c2, nc, n6, c6, e, hbl, g0, g1, g2, g3, g4, g5, g6, g7⟩ := h4 j hj
  exact ⟨b, off, k, p, s4, a1, a2, na, a6, n1, c1, n2, c2, nc, n6, c6, e, Nat.lt_of_lt_of_le hbl hb.size, (hb.cell (p := ⟨b, _, none⟩) hbl).trans g0, (hb.cell (p := ⟨b, _, none⟩) hbl).trans g1, (hb.cell (p := ⟨b, _, none⟩) hbl).trans g2, (hb.cell (p := ⟨b, _, none⟩) hbl).trans g3, (hb.cell (p := ⟨b, _, none⟩) hbl).trans g4, (hb.cell (p := ⟨b, _, none⟩) hbl).trans g5, (hb.cell (p := ⟨b, _, none⟩) hbl).trans g6, g7.below hb⟩
theorem QuestAt.form {w : World} {v : Value} {qs : List (List Int)} (h : QuestAt w v qs) : ∃ a c, v = .slice a qs.length c ∧ qs.length ≤ c ∧ c ≤ maxLen := by
  obtain ⟨a, c, h1, h2, h3, _⟩ := h
  exact ⟨a, c, h1, h2, h3⟩
theorem QuestAt.at {w : World} {a : Option Addr} {c : Nat} {qs : List (List Int)} (h : QuestAt w (.slice a qs.length c) qs) {j : Nat} (hj : j < qs.length) : ∃ (b off : Nat) (k p : Int) (s4 : ByteArray) (a1 a2 na a6 : Option Addr) (n1 c1 n2 c2 nc n6 c6 : Nat), a = some ⟨b, off, none⟩ ∧ b < w.heap.size ∧
    w.cell? ⟨b, off + j * 7, none⟩ = some (.int .i64 k) ∧ w.cell? ⟨b, off + j * 7 + 1, none⟩ = some (.slice a1 n1 c1) ∧ w.cell? ⟨b, off + j * 7 + 2, none⟩ = some (.slice a2 n2 c2) ∧ w.cell? ⟨b, off + j * 7 + 3, none⟩ = some (.slice na qs[j].length nc) ∧ w.cell? ⟨b, off + j * 7 + 4, none⟩ = some (.string s4) ∧ w.cell? ⟨b, off + j * 7 + 5, none⟩ = some (.int .i64 p) ∧ w.cell? ⟨b, off + j * 7 + 6, none⟩ = some (.slice a6 n6 c6) ∧ IntsAt w (.slice na qs[j].length nc) qs[j] := by
  obtain ⟨a', c', h1, _, _, h4⟩ := h
  injection h1 with e1 _ e2
  subst e1 e2
  exact h4 j hj
/-- The items of an examination. -/
def ItemsAt (w : World) (v : Value) (R : List (List (List Int))) : Prop := ∃ (a : Option Addr) (c : Nat), v = .slice a R.length c ∧ R.length ≤ c ∧ c ≤ maxLen ∧ ∀ (i : Nat) (h : i < R.length), ∃ (b off : Nat) (s0 : ByteArray) (a1 a2 qa : Option Addr) (n1 c1 n2 c2 qc : Nat), a = some ⟨b, off, none⟩ ∧ b < w.heap.size ∧
  w.cell? ⟨b, off + i * 4, none⟩ = some (.string s0) ∧ w.cell? ⟨b, off + i * 4 + 1, none⟩ = some (.slice a1 n1 c1) ∧ w.cell? ⟨b, off + i * 4 + 2, none⟩ = some (.slice a2 n2 c2) ∧ w.cell? ⟨b, off + i * 4 + 3, none⟩ = some (.slice qa R[i].length qc) ∧ QuestAt w (.slice qa R[i].length qc) R[i]
theorem ItemsAt.below {w w' : World} {v : Value} {R : List (List (List Int))} (h : ItemsAt w v R) (hb : Below w.heap.size w w') : ItemsAt w' v R := by
  obtain ⟨a, c, h1, h2, h3, h4⟩ := h
  refine ⟨a, c, h1, h2, h3, fun i hi => ?_⟩
  obtain ⟨b, off, s0, a1, a2, qa, n1, c1, n2, c2, qc, e, hbl, g0, g1, g2, g3, g4⟩ := h4 i hi
  exact ⟨b, off, s0, a1, a2, qa, n1, c1, n2, c2, qc, e, Nat.lt_of_lt_of_le hbl hb.size, (hb.cell (p := ⟨b, _, none⟩) hbl).trans g0, (hb.cell (p := ⟨b, _, none⟩) hbl).trans g1, (hb.cell (p := ⟨b, _, none⟩) hbl).trans g2, (hb.cell (p := ⟨b, _, none⟩) hbl).trans g3, g4.below hb⟩
theorem ItemsAt.form {w : World} {v : Value} {R : List (List (List Int))} (h : ItemsAt w v R) : ∃ a c, v = .slice a R.length c ∧ R.length ≤ c ∧ c ≤ maxLen := by
  obtain ⟨a, c, h1, h2, h3, _⟩ := h
  exact ⟨a, c, h1, h2, h3⟩
theorem ItemsAt.at {w : World} {a : Option Addr} {c : Nat} {R : List (List (List Int))} (h : ItemsAt w (.slice a R.length c) R) {i : Nat} (hi : i < R.length) : ∃ (b off : Nat) (s0 : ByteArray) (a1 a2 qa : Option Addr) (n1 c1 n2 c2 qc : Nat), a = some ⟨b, off, none⟩ ∧ b < w.heap.size ∧
    w.cell? ⟨b, off + i * 4, none⟩ = some (.string s0) ∧ w.cell? ⟨b, off + i * 4 + 1, none⟩ = some (.slice a1 n1 c1) ∧ w.cell? ⟨b, off + i * 4 + 2, none⟩ = some (.slice a2 n2 c2) ∧ w.cell? ⟨b, off + i * 4 + 3, none⟩ = some (.slice qa R[i].length qc) ∧ QuestAt w (.slice qa R[i].length qc) R[i] := by
  obtain ⟨a', c', h1, _, _, h4⟩ := h
  injection h1 with e1 _ e2
  subst e1 e2
  exact h4 i hi
/-- An examination that is not too great. -/
def ExamOk (R : List (List (List Int))) : Prop := R.length ≤ 1000 ∧ ∀ qs ∈ R, qs.length ≤ 1000 ∧ ∀ n ∈ qs, n.length ≤ 1000
def ExamAt (w : World) (v : Value) (R : List (List (List Int))) : Prop := ∃ (t : ByteArray) (a : Option Addr) (c : Nat), v = .agg #[.string t, .slice a R.length c] ∧ ItemsAt w (.slice a R.length c) R
/-- The needed places of a question, and the error. -/
def neededZ (L : List Pl) (item : Int) (needs : List Int) : List Int × Int :=
  if 8 < (dedZ needs).length then ([], 4) else if (neededTo L item (dedZ needs) L.length).length = (dedZ needs).length then (neededTo L item (dedZ needs) L.length, 0) else ([], 11)
theorem needed_eq {L : List Pl} {item : Int} {needs o : List Int} {ez : Int} (h : NeededR L item (dedZ needs) o ez) : neededZ L item needs = (o, ez) := by
  unfold neededZ
  rcases h with ⟨h1, rfl, rfl⟩ | ⟨h1, h2, rfl, rfl⟩ | ⟨h1, h2, rfl, rfl⟩
  · rw [if_pos h1]
  · rw [if_neg (by omega), if_neg h2]
  · rw [if_neg (by omega), if_pos h2]
theorem neededZ_R (L : List Pl) (item : Int) (needs : List Int) : NeededR L item (dedZ needs) (neededZ L item needs).1 (neededZ L item needs).2 := by
  unfold neededZ NeededR
  by_cases h1 : 8 < (dedZ needs).length
  · rw [if_pos h1]
    exact .inl ⟨h1, rfl, rfl⟩
  · rw [if_neg h1]
    by_cases h2 : (neededTo L item (dedZ needs) L.length).length = (dedZ needs).length
    · rw [if_pos h2]
      exact .inr (.inr ⟨by omega, h2, rfl, rfl⟩)
    · rw [if_neg h2]
      exact .inr (.inl ⟨by omega, h2, rfl, rfl⟩)
theorem places_eq {L : List Pl} {item : Int} {needs o : List Int} {ez : Int} (h : PlacesR L item (compZ (sortZ needs)) o ez) : neededZ L item needs = (o, ez) := by
  obtain ⟨h1, h2⟩ := places_needed h (neededZ_R L item needs)
  rw [h1, h2]
/-- The error and the steps of a question. -/
def quE (way : Int) (L : List Pl) (item : Int) (needs : List Int) : Int := if (neededZ L item needs).2 = 0 then taskZ way L.length (neededZ L item needs).1 else (neededZ L item needs).2
def quS (way : Int) (L : List Pl) (item : Int) (needs : List Int) : Int := restV way (needL L (neededZ L item needs).1) (2 ^ (neededZ L item needs).1.length - 1) pl0
def Qat (R : List (List (List Int))) (i j : Nat) (n : List Int) : Prop := ∃ qs, R[i]? = some qs ∧ qs[j]? = some n
def GoodTo (way : Int) (L : List Pl) (R : List (List (List Int))) (i j : Nat) : Prop := ∀ i' j' n', Qat R i' j' n' → (i' < i ∨ (i' = i ∧ j' < j)) → quE way L (i' : Nat) n' = 0
def rowsTo (way : Int) (L : List Pl) (R : List (List (List Int))) (i : Nat) : List (List Int) := (List.range i).map fun k => (R.getD k []).map (quS way L (k : Nat))
theorem rowsTo_succ {way : Int} {L : List Pl} {R : List (List (List Int))} {i : Nat} (h : i < R.length) : rowsTo way L R (i + 1) = rowsTo way L R i ++ [R[i].map (quS way L (i : Nat))] := by
  unfold rowsTo
  rw [List.range_succ, List.map_append]
  simp [List.getD, h]
theorem rowsTo_len (way : Int) (L : List Pl) (R : List (List (List Int))) (i : Nat) : (rowsTo way L R i).length = i := by simp [rowsTo]
def AskR (way : Int) (L : List Pl) (R : List (List (List Int))) (rows : List (List Int)) (ez : Int) : Prop :=
  ((way < 0 ∨ 3 < way) ∧ ez = 1 ∧ rows = []) ∨ ((0 ≤ way ∧ way ≤ 3) ∧ ((ez = 0 ∧ (∀ i j n, Qat R i j n → quE way L (i : Nat) n = 0) ∧ rows = rowsTo way L R R.length) ∨ (ez ≠ 0 ∧ rows = [] ∧ ∃ i j n, Qat R i j n ∧ quE way L (i : Nat) n = ez ∧ GoodTo way L R i j)))
theorem ask_same {way : Int} {L : List Pl} {R : List (List (List Int))} {rows rows' : List (List Int)} {ez ez' : Int} (h : AskR way L R rows ez) (h' : AskR way L R rows' ez') : rows = rows' ∧ ez = ez' := by
  rcases h with ⟨h1, rfl, rfl⟩ | ⟨h1, h2⟩
  · rcases h' with ⟨_, rfl, rfl⟩ | ⟨g1, _⟩
    · exact ⟨rfl, rfl⟩
    · omega
  · rcases h' with ⟨g1, _⟩ | ⟨_, g2⟩
    · omega
    · rcases h2 with ⟨rfl, a2, rfl⟩ | ⟨a1, rfl, i, j, n, a2, a3, a4⟩
      · rcases g2 with ⟨rfl, _, rfl⟩ | ⟨b1, _, i, j, n, b2, b3, _⟩
        · exact ⟨rfl, rfl⟩
        · exact absurd (b3.symm.trans (a2 i j n b2)) b1
      · rcases g2 with ⟨rfl, b2, _⟩ | ⟨b1, rfl, i', j', n', b2, b3, b4⟩
        · exact absurd (a3.symm.trans (b2 i j n a2)) a1
        · refine ⟨rfl, ?_⟩
          have hx : ¬ (i' < i ∨ (i' = i ∧ j' < j)) := fun h => b1 (b3.symm.trans (a4 _ _ _ b2 h))
          have hy : ¬ (i < i' ∨ (i = i' ∧ j < j')) := fun h => a1 (a3.symm.trans (b4 _ _ _ a2 h))
          have e1 : i = i' := by omega
          have e2 : j = j' := by omega
          subst e1 e2
          obtain ⟨q1, q2, q3⟩ := a2
          obtain ⟨p1, p2, p3⟩ := b2
          rw [q2] at p2
          injection p2 with p2
          subst p2
          rw [q3] at p3
          injection p3 with p3
          subst p3
          rw [← a3, ← b3]
theorem GoodTo.next {way : Int} {L : List Pl} {R : List (List (List Int))} {i j : Nat} (h : GoodTo way L R i j) (hi : i < R.length) (hj : j < R[i].length) (he : quE way L (i : Nat) R[i][j] = 0) : GoodTo way L R i (j + 1) := by
  intro i' j' n' hq hlt
  by_cases hc : i' < i ∨ (i' = i ∧ j' < j)
  · exact h i' j' n' hq hc
  · have e1 : i' = i := by omega
    have e2 : j' = j := by omega
    subst e1 e2
    obtain ⟨qs, q2, q3⟩ := hq
    rw [List.getElem?_eq_getElem hi] at q2
    injection q2 with q2
    subst q2
    rw [List.getElem?_eq_getElem hj] at q3
    injection q3 with q3
    rw [← q3]
    exact he
theorem GoodTo.item {way : Int} {L : List Pl} {R : List (List (List Int))} {i j : Nat} (h : GoodTo way L R i j) (hi : i < R.length) (hj : R[i].length ≤ j) : GoodTo way L R (i + 1) 0 := by
  intro i' j' n' hq hlt
  refine h i' j' n' hq ?_
  by_cases h1 : i' < i
  · exact .inl h1
  · have e1 : i' = i := by omega
    subst e1
    obtain ⟨qs, q2, q3⟩ := hq
    rw [List.getElem?_eq_getElem hi] at q2
    injection q2 with q2
    subst q2
    exact .inr ⟨rfl, Nat.lt_of_lt_of_le (List.getElem?_eq_some_iff.1 q3).1 hj⟩
theorem GoodTo.start (way : Int) (L : List Pl) (R : List (List (List Int))) : GoodTo way L R 0 0 := fun i' j' n' _ h => by omega
theorem GoodTo.all {way : Int} {L : List Pl} {R : List (List (List Int))} (h : GoodTo way L R R.length 0) : ∀ i j n, Qat R i j n → quE way L (i : Nat) n = 0 := fun i j n hq => by
  refine h i j n hq (.inl ?_)
  obtain ⟨qs, q2, _⟩ := hq
  exact (List.getElem?_eq_some_iff.1 q2).1
end Go.Proofs.Ytfljgcpfmhhgcaa
