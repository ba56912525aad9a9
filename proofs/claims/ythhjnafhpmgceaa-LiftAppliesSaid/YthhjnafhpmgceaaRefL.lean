/- Contract: a pair of texts and the edits between them, with what the rows of the edits are: for the code that changes the edits. Words: what a text in spare room leaves alone. -/
import Derived.Test.YthhjnafhpmgceaaRefK
namespace Go.Proofs.Ythhjnafhpmgceaa
open Go.RowKit Go.Lab
set_option maxHeartbeats 1000000 in
theorem pair2_any (vl vm : Value) (l m : List Int) (w : World) (hl : IntsAt w vl l) (hm : IntsAt w vm m) :
    Calls Try.prog 7 #[vl, vm] w fun e w' => ∃ va vb ve es Bm, e = .returned (.tuple #[va, vb, ve]) ∧ (∀ X, Below Bm w' X → SymsAt X va (symsZ l)) ∧ OwnEd w' Bm ve es ∧ es.length ≤ 3 ∧ (∀ e ∈ es, e.ins.length ≤ 10) ∧ w.heap.size ≤ Bm ∧ Bm ≤ w'.heap.size ∧ Below w.heap.size w w' := by
  have hlen := symsZ_len l
  have HS := hidep (syms_any vl l w hl)
  have HM : Hid (∀ W, Below w.heap.size w W → Calls Try.prog 20 #[.int .i64 (symsZ l).length, vm] W fun e w' => ∃ u es, e = .returned u ∧ OwnEd w' W.heap.size u es ∧ validZ (symsZ l).length es = true ∧ es.length ≤ 3 ∧ (∀ e ∈ es, e.ins.length ≤ 10) ∧ Below W.heap.size W w') :=
    hidep (fun W hW => made_any vm m _ W (hm.below hW) (by omega))
  generalize symsZ l = A at *
  go_enter Try.func7, Try.ntmps7
  go_wp2_with (first
    | (go_at_call 8; refine HS.out.mono ?_; rintro e w1 ⟨va, rfl, ho, hb1⟩; have ha := SymsAt.of_own ho; obtain ⟨aa, ca, rfl, _, _⟩ := ha.form; clear ho)
    | (go_at_call 20; refine (HM.out _ hb1).mono ?_; rintro e w2 ⟨ve, es, rfl, ho, hv, hle, hin, hb2⟩; have he := ho.rd; have hb12 := hb1.trans (hb2.mono hb1.size); have ha2 := ha.below hb2)
    | (go_at_call 14; refine (apply33_any _ _ A es _ ha2 he).mono ?_; rintro e w3 ⟨vb, rfl, ho3, hb3⟩; have hoe := ho.below hb3; have hb23 := hb2.trans (hb3.mono hb2.size); have hbw := hb12.trans (hb3.mono hb12.size))
    | fail)
  go_ret3
  exact ⟨_, _, _, es, w1.heap.size, rfl, fun X hX => ha.below (hb23.trans hX), hoe, hle, hin, hb1.size, hb23.size, hbw⟩
/-- What a push into the row at g, from n elements on, leaves alone. -/
def FarFrom (u x : Value) : Prop := ∀ g o s n c m cx, u = .slice (some ⟨g, 0, none⟩) n c → x = .slice (some ⟨g, o, s⟩) m cx → 0 < cx → o = 0 ∧ m ≤ n
/-- Everything that reads as a text, and does not reach behind u's length in u's row, still does. -/
def Spares (u : Value) (w w' : World) : Prop := (∀ x lx, SymsAt w x lx → FarFrom u x → SymsAt w' x lx) ∧ ∀ B x n xs, w.ownsRow B 30 2 x n xs → FarFrom u x → w'.ownsRow B 30 2 x n xs
theorem Spares.below (u : Value) {w w' : World} (h : Below w.heap.size w w') : Spares u w w' := ⟨fun _ _ hx _ => hx.below h, fun _ _ _ _ hx _ => ownR_below hx h⟩
/-- A push into spare room. -/
theorem spares_room {w w' : World} {B B' g n n' c : Nat} {xs xs' : List Value} (h : w.ownsRow B 30 2 (.slice (some ⟨g, 0, none⟩) n c) n xs) (h' : w'.ownsRow B' 30 2 (.slice (some ⟨g, 0, none⟩) n' c) n' xs')
    (hn : n ≤ n') (hp : xs'.take (n * 2) = xs) (hg : w.grownBy w' (some g)) : Spares (.slice (some ⟨g, 0, none⟩) n c) w w' := by
  rcases h.2 with ⟨h0, _⟩ | ⟨g1, cap1, cur1, e1, _, hh1, hc1, hm1, hs1, ht1⟩
  · cases h0
  injection e1 with e1 _ e2
  injection e1 with e1
  injection e1 with e1 _ _
  subst e1 e2
  rcases h'.2 with ⟨h0, _⟩ | ⟨g2, cap2, cur2, e3, _, hh2, hc2, hm2, hs2, ht2⟩
  · cases h0
  injection e3 with e3 _ e4
  injection e3 with e3
  injection e3 with e3 _ _
  subst e3 e4
  have hpre : cur2.toList.take (n * 2) = cur1.toList.take (n * 2) := by
    rw [ht1, ← hp, ← ht2, List.take_take, Nat.min_eq_left (Nat.mul_le_mul_right 2 hn)]
  have hget : ∀ j, j < n * 2 → cur2[j]? = cur1[j]? := fun j hj => by
    have := congrArg (·[j]?) hpre
    simp only [List.getElem?_take, if_pos hj] at this
    simpa using this
  refine ⟨fun x lx hx hf => ?_, fun Bx x nx xx hx hf => ?_⟩
  · obtain ⟨k1, a, cx, rfl, k2, k3, k4, k5⟩ := hx
    refine ⟨k1, a, cx, rfl, k2, k3, k4, fun ad e h0 => ?_⟩
    obtain ⟨q1, cur, t, fz, q2, q3, q4⟩ := k5 ad e h0
    subst e
    obtain ⟨b, o, sp⟩ := ad
    by_cases hb : b = g
    · subst hb
      obtain ⟨ho, hmn⟩ := hf b o sp n c lx.length cx rfl rfl h0
      have hcc : cur1 = cur ∧ t = 30 := by
        have := hh1.symm.trans q3
        simp at this
        exact ⟨this.1, this.2.1.symm⟩
      obtain ⟨rfl, rfl⟩ := hcc
      refine ⟨q1, cur2, _, _, q2, hh2, fun j u hu => ?_⟩
      have hj : j < lx.length * 2 := by
        have := (List.getElem?_eq_some_iff.1 hu).1
        rw [k1] at this
        exact this
      have := q4 j u hu
      simp only [ho, Nat.zero_add] at this ⊢
      rw [hget j (by omega)]
      exact this
    · exact ⟨q1, cur, t, fz, q2, (hg.block b (Go.lt_of_block q3) (fun e => hb (by injection e))).trans q3, q4⟩
  · refine ⟨hx.1, ?_⟩
    rcases hx.2 with h2 | ⟨gx, cx, cur, rfl, k1, k2, k3, k4, k5, k6⟩
    · exact .inl h2
    · by_cases hb : gx = g
      · subst hb
        have hcc : cur1 = cur := by
          have := hh1.symm.trans k2
          simp at this
          exact this
        subst hcc
        refine .inr ⟨gx, cx, cur2, rfl, k1, hh2, k3, k4, by omega, ?_⟩
        rw [← k6]
        by_cases h0 : 0 < cx
        · have hmn := (hf gx 0 none n c nx cx rfl rfl h0).2
          have := congrArg (List.take (nx * 2)) hpre
          rw [List.take_take, List.take_take, Nat.min_eq_left (Nat.mul_le_mul_right 2 hmn)] at this
          exact this
        · have : nx = 0 := by omega
          subst this
          simp
      · exact .inr ⟨gx, cx, cur, rfl, k1, (hg.block gx (Go.lt_of_block k2) (fun e => hb (by injection e))).trans k2, k3, k4, k5, k6⟩
end Go.Proofs.Ythhjnafhpmgceaa
