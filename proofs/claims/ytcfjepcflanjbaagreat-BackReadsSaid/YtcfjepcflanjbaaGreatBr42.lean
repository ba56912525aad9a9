/- Plain: a row of rules that is changed. -/
import Derived.Test.YtcfjepcflanjbaaGreatBr05
import Derived.Test.YtcfjepcflanjbaaGreatBr07
import Derived.Test.YtcfjepcflanjbaaGreatBr10
import Derived.Laws.OwnMore
namespace Go.Proofs.YtcfjepcflanjbaaGreat
open Go.RowKit Go.Lab Go.Shelf
theorem rulesC_txt : ∀ (l : List RuleZ) (us : List Value) (k : Nat) (x : ByteArray) (h : k < l.length), us.length = l.length -> (zq10 l us).set (k * 3) (.string x) = zq10 (l.set k ⟨x, l[k].wh, l[k].cells⟩) us
  | e :: l, u :: us, 0, x, _, _ => rfl
  | e :: l, u :: us, k + 1, x, h, hl => by
    have ih := rulesC_txt l us k x (by simpa using h) (by simpa using hl)
    have e3 : (k + 1) * 3 = k * 3 + 1 + 1 + 1 := by omega
    rw [e3]
    simp only [zq10, ruleC, List.cons_append, List.nil_append, List.set_cons_succ, List.getElem_cons_succ]
    rw [ih]
theorem rulesC_wh : ∀ (l : List RuleZ) (us : List Value) (k : Nat) (x : Int) (h : k < l.length), us.length = l.length -> (zq10 l us).set (k * 3 + 1) (.int .i64 x) = zq10 (l.set k ⟨l[k].text, x, l[k].cells⟩) us
  | e :: l, u :: us, 0, x, _, _ => rfl
  | e :: l, u :: us, k + 1, x, h, hl => by
    have ih := rulesC_wh l us k x (by simpa using h) (by simpa using hl)
    have e3 : (k + 1) * 3 + 1 = (k * 3 + 1) + 1 + 1 + 1 := by omega
    rw [e3]
    simp only [zq10, ruleC, List.cons_append, List.nil_append, List.set_cons_succ, List.getElem_cons_succ]
    rw [ih]
theorem rulesC_cel : ∀ (l : List RuleZ) (us : List Value) (k : Nat) (v : Value) (c : List Int) (h : k < l.length), us.length = l.length -> (zq10 l us).set (k * 3 + 2) v = zq10 (l.set k ⟨l[k].text, l[k].wh, c⟩) (us.set k v)
  | e :: l, u :: us, 0, v, c, _, _ => rfl
  | e :: l, u :: us, k + 1, v, c, h, hl => by
    have ih := rulesC_cel l us k v c (by simpa using h) (by simpa using hl)
    have e3 : (k + 1) * 3 + 2 = (k * 3 + 2) + 1 + 1 + 1 := by omega
    rw [e3]
    simp only [zq10, ruleC, List.cons_append, List.nil_append, List.set_cons_succ, List.getElem_cons_succ]
    rw [ih]
theorem zq86 : ∀ (l : List RuleZ) (us : List Value) (l' : List RuleZ) (us' : List Value), us.length = l.length -> zq10 (l ++ l') (us ++ us') = zq10 l us ++ zq10 l' us'
  | [], [], l', us', _ => by simp [zq10]
  | [], _ :: _, _, _, h => by simp at h
  | _ :: _, [], _, _, h => by simp at h
  | a :: l, b :: us, l', us', h => by
    have := zq86 l us l' us' (by simpa using h)
    simp [zq10, this]
theorem rulesC_take (l : List RuleZ) (us : List Value) (m : Nat) (h : us.length = l.length) (hm : m <= l.length) : (zq10 l us).take (m * 3) = zq10 (l.take m) (us.take m) := by
  have e := zq86 (l.take m) (us.take m) (l.drop m) (us.drop m) (by rw [List.length_take, List.length_take, h])
  rw [List.take_append_drop, List.take_append_drop] at e
  have hl : (zq10 (l.take m) (us.take m)).length = m * 3 := by rw [zq89 _ _ (by rw [List.length_take, List.length_take, h]), List.length_take, Nat.min_eq_left hm]
  rw [e, <- hl, List.take_left]
theorem rulesC_drop (l : List RuleZ) (us : List Value) (m : Nat) (h : us.length = l.length) (hm : m <= l.length) : (zq10 l us).drop (m * 3) = zq10 (l.drop m) (us.drop m) := by
  have e := zq86 (l.take m) (us.take m) (l.drop m) (us.drop m) (by rw [List.length_take, List.length_take, h])
  rw [List.take_append_drop, List.take_append_drop] at e
  have hl : (zq10 (l.take m) (us.take m)).length = m * 3 := by rw [zq89 _ _ (by rw [List.length_take, List.length_take, h]), List.length_take, Nat.min_eq_left hm]
  rw [e, <- hl, List.drop_left]
def ByN (S : Nat -> Prop) (B : Option Nat) (w : World) (u : Value) (c : List Int) : Prop := ∀ w' : World, w.heap.size <= w'.heap.size -> (∀ b, b < w.heap.size -> some b ≠ B -> ¬ S b -> w'.heap[b]? = w.heap[b]?) -> BysAt w' u c
theorem ByN.bys {S : Nat -> Prop} {B : Option Nat} {w : World} {u : Value} {c : List Int} (h : ByN S B w u c) : BysAt w u c := h w (Nat.le_refl _) (fun _ _ _ _ => rfl)
theorem bys_agree {w w' : World} {u : Value} {c : List Int} (h : BysAt w u c) (ha : ∀ b, b < w.heap.size -> w'.heap[b]? = w.heap[b]?) : BysAt w' u c := by
  obtain ⟨⟨h1, a, cap, h2, h3, h4, h5, h6⟩, hr⟩ := h
  refine ⟨⟨h1, a, cap, h2, h3, h4, h5, fun ad e h0 => ?_⟩, hr⟩
  obtain ⟨g1, cur, t, fz, g2, g3, g4⟩ := h6 ad e h0
  exact ⟨g1, cur, t, fz, g2, (ha _ (lt_of_block g3)).trans g3, g4⟩
theorem ByN.old {w0 w : World} {u : Value} {c : List Int} {S : Nat -> Prop} {B : Option Nat} (h : BysAt w0 u c) (hb : Below w0.heap.size w0 w) (hB : ∀ x, B = some x -> w0.heap.size <= x) (hS : ∀ x, S x -> w0.heap.size <= x) : ByN S B w u c := fun w' _ ha => by
  refine bys_agree h (fun b hbl => ?_)
  rw [ha b (Nat.lt_of_lt_of_le hbl hb.size) (fun e => by have := hB b e.symm; omega) (fun e => by have := hS b e; omega)]
  exact hb.block b hbl
theorem ByN.below {w w' : World} {u : Value} {c : List Int} {S : Nat -> Prop} {B : Option Nat} (h : ByN S B w u c) (hb : Below w.heap.size w w') : ByN S B w' u c := fun x hx ha =>
  h x (Nat.le_trans hb.size hx) (fun b hbl hne hnS => (ha b (Nat.lt_of_lt_of_le hbl hb.size) hne hnS).trans (hb.block b hbl))
theorem ByN.grown {w w' : World} {u : Value} {c : List Int} {S : Nat -> Prop} {B B' : Option Nat} (h : ByN S B w u c) (hg : w.grownBy w' B) (hB : B' = B \/ ∀ x, B' = some x -> w.heap.size <= x) : ByN S B' w' u c := fun x hx ha =>
  h x (Nat.le_trans hg.size hx) (fun b hbl hne hnS => by
    refine (ha b (Nat.lt_of_lt_of_le hbl hg.size) (fun e => ?_) hnS).trans (hg.block b hbl hne)
    rcases hB with rfl | h2
    · exact hne e
    · have := h2 b e.symm
      omega)
def RuM (S : Nat -> Prop) (B : Nat) (v : Value) (L : List RuleZ) (W : World) : Prop := ∃ us : List Value, us.length = L.length /\ W.ownsRow B 59 3 v L.length (zq10 L us) /\ (∀ i (h : i < L.length) (h' : i < us.length), ByN S v.ownBlock W us[i] L[i].cells) /\ ∀ r ∈ L, zq3e r
theorem RuM.below {S : Nat -> Prop} {B : Nat} {v : Value} {L : List RuleZ} {W W' : World} (h : RuM S B v L W) (hb : Below W.heap.size W W') : RuM S B v L W' := by
  obtain ⟨us, h1, h2, h3, h4⟩ := h
  exact ⟨us, h1, zq2 h2 hb, fun i a b => (h3 i a b).below hb, h4⟩
theorem RuM.rules {S : Nat -> Prop} {B : Nat} {v : Value} {L : List RuleZ} {W : World} (h : RuM S B v L W) : RulesAt W v L := by
  obtain ⟨us, h1, h2, h3, h4⟩ := h
  exact ⟨us, h1, (Rd.of_own h2).mono (fun _ _ => trivial), fun i a b => (h3 i a b).bys⟩
theorem RuM.form {S : Nat -> Prop} {B : Nat} {v : Value} {L : List RuleZ} {W : World} (h : RuM S B v L W) (hL : 0 < L.length) : ∃ g c, v = .slice (some ⟨g, 0, none⟩) L.length c /\ L.length <= c /\ c <= maxLen /\ B <= g /\ g < W.heap.size := by
  obtain ⟨us, h1, h2, _, _⟩ := h
  obtain ⟨a, c, e, h3, h4⟩ := (Rd.of_own h2).form
  rcases h2.2 with ⟨e1, _⟩ | ⟨g, cap, cur, e1, hb, hg, _⟩
  · rw [e] at e1
    injection e1 with _ e2 _
    omega
  · rw [e] at e1
    injection e1 with e2 _ e3
    subst e2 e3
    exact ⟨g, c, e, h3, h4, hb, lt_of_block hg⟩
theorem RuM.txt {S : Nat -> Prop} {B g c : Nat} {L : List RuleZ} {W : World} (h : RuM S B (.slice (some ⟨g, 0, none⟩) L.length c) L W) {k : Nat} (hk : k < L.length) (x : ByteArray) (hx : x.size <= 100000) :
    RuM S B (.slice (some ⟨g, 0, none⟩) L.length c) (L.set k ⟨x, L[k].wh, L[k].cells⟩) (W.setCell ⟨g, k * 3, none⟩ (.string x)) := by
  obtain ⟨us, h1, h2, h3, h4⟩ := h
  obtain ⟨s1, s2⟩ := h2.stored (k * 3) (.string x)
  refine ⟨us, by rw [List.length_set]; exact h1, ?_, fun i a b => ?_, fun r hr => ?_⟩
  · rw [List.length_set, <- rulesC_txt L us k x hk h1]
    exact s1
  · rw [List.length_set] at a
    have := (h3 i a b).grown s2 (.inl rfl)
    rw [List.getElem_set]
    split
    · rename_i e
      subst e
      exact this
    · exact this
  · rcases List.mem_or_eq_of_mem_set hr with e | e
    · exact h4 r e
    · rw [e]
      exact ⟨hx, (h4 _ (List.getElem_mem hk)).2⟩
theorem RuM.wh {S : Nat -> Prop} {B g c : Nat} {L : List RuleZ} {W : World} (h : RuM S B (.slice (some ⟨g, 0, none⟩) L.length c) L W) {k : Nat} (hk : k < L.length) (x : Int) (hx : -9223372036854775808 <= x /\ x <= 9223372036854775807) :
    RuM S B (.slice (some ⟨g, 0, none⟩) L.length c) (L.set k ⟨L[k].text, x, L[k].cells⟩) (W.setCell ⟨g, k * 3 + 1, none⟩ (.int .i64 x)) := by
  obtain ⟨us, h1, h2, h3, h4⟩ := h
  obtain ⟨s1, s2⟩ := h2.stored (k * 3 + 1) (.int .i64 x)
  refine ⟨us, by rw [List.length_set]; exact h1, ?_, fun i a b => ?_, fun r hr => ?_⟩
  · rw [List.length_set, <- rulesC_wh L us k x hk h1]
    exact s1
  · rw [List.length_set] at a
    have := (h3 i a b).grown s2 (.inl rfl)
    rw [List.getElem_set]
    split
    · rename_i e
      subst e
      exact this
    · exact this
  · rcases List.mem_or_eq_of_mem_set hr with e | e
    · exact h4 r e
    · rw [e]
      exact ⟨(h4 _ (List.getElem_mem hk)).1, hx⟩
theorem RuM.cel {S : Nat -> Prop} {B g c : Nat} {L : List RuleZ} {W : World} (h : RuM S B (.slice (some ⟨g, 0, none⟩) L.length c) L W) {k : Nat} (hk : k < L.length) (u : Value) (C : List Int) (hu : ByN S (some g) W u C) :
    RuM S B (.slice (some ⟨g, 0, none⟩) L.length c) (L.set k ⟨L[k].text, L[k].wh, C⟩) (W.setCell ⟨g, k * 3 + 2, none⟩ u) := by
  obtain ⟨us, h1, h2, h3, h4⟩ := h
  obtain ⟨s1, s2⟩ := h2.stored (k * 3 + 2) u
  refine ⟨us.set k u, by rw [List.length_set, List.length_set]; exact h1, ?_, fun i a b => ?_, fun r hr => ?_⟩
  · rw [List.length_set, <- rulesC_cel L us k u C hk h1]
    exact s1
  · rw [List.length_set] at a b
    have := (h3 i a b).grown s2 (.inl rfl)
    rw [List.getElem_set, List.getElem_set]
    by_cases e : k = i
    · rw [if_pos e, if_pos e]
      exact hu.grown s2 (.inl rfl)
    · rw [if_neg e, if_neg e]
      exact this
  · rcases List.mem_or_eq_of_mem_set hr with e | e
    · exact h4 r e
    · rw [e]
      exact ⟨(h4 _ (List.getElem_mem hk)).1, (h4 _ (List.getElem_mem hk)).2⟩
theorem RuM.push {S : Nat -> Prop} {B : Nat} {v v' : Value} {L N : List RuleZ} {us un : List Value} {W W' : World} (hl : us.length = L.length) (hc : ∀ i (h : i < L.length) (h' : i < us.length), ByN S v.ownBlock W us[i] L[i].cells) (hok : ∀ r ∈ L, zq3e r)
    (hln : un.length = N.length) (hcn : ∀ i (h : i < N.length) (h' : i < un.length), ByN S v.ownBlock W un[i] N[i].cells) (hokn : ∀ r ∈ N, zq3e r) (hg : W.grownBy W' v.ownBlock) (hv : v'.ownBlock = v.ownBlock \/ v'.ownBlock = some W.heap.size)
    (ho : W'.ownsRow B 59 3 v' (L.length + N.length) (zq10 L us ++ zq10 N un)) : RuM S B v' (L ++ N) W' := by
  have hB : v'.ownBlock = v.ownBlock \/ ∀ x, v'.ownBlock = some x -> W.heap.size <= x := by
    rcases hv with e | e
    · exact .inl e
    · refine .inr (fun x hx => ?_)
      rw [e] at hx
      injection hx with hx
      omega
  refine ⟨us ++ un, by rw [List.length_append, List.length_append, hl, hln], ?_, fun i a b => ?_, fun r hr => ?_⟩
  · rw [zq86 L us N un hl, List.length_append]
    exact ho
  · by_cases h : i < L.length
    · rw [List.getElem_append_left (by omega), List.getElem_append_left h]
      exact (hc i h (by omega)).grown hg hB
    · rw [List.getElem_append_right (by omega), List.getElem_append_right (by omega)]
      simp only [hl]
      rw [List.length_append] at a b
      exact (hcn (i - L.length) (by omega) (by omega)).grown hg hB
  · rcases List.mem_append.1 hr with e | e
    · exact hok r e
    · exact hokn r e
theorem RuM.stable {S : Nat -> Prop} {B : Nat} {v : Value} {L : List RuleZ} {W W' : World} (h : RuM S B v L W) (hS : ∀ b, S b -> b < B) (hs : W.heap.size <= W'.heap.size) (ha : ∀ b, b < W.heap.size -> ¬ S b -> W'.heap[b]? = W.heap[b]?) : RulesAt W' v L := by
  obtain ⟨us, h1, h2, h3, h4⟩ := h
  refine ⟨us, h1, ?_, fun i a b => h3 i a b W' hs (fun b hb _ hnS => ha b hb hnS)⟩
  obtain ⟨g1, a, cap, g2, g3, g4, g5, g6⟩ := (Rd.of_own h2).mono (T' := fun _ => True) (fun _ _ => trivial)
  refine ⟨g1, a, cap, g2, g3, g4, g5, fun ad e h0 => ?_⟩
  obtain ⟨k1, cur, t, fz, k2, k3, k4⟩ := g6 ad e h0
  refine ⟨k1, cur, t, fz, k2, (ha _ (lt_of_block k3) (fun hSb => ?_)).trans k3, k4⟩
  rcases h2.2 with ⟨e1, _⟩ | ⟨g, c, cur', e1, hb, _⟩
  · rw [g2] at e1
    injection e1 with e2 _ _
    rw [e] at e2
    cases e2
  · rw [g2] at e1
    injection e1 with e2 _ _
    rw [e] at e2
    injection e2 with e2
    have := hS _ hSb
    rw [e2] at this
    simp only at this
    omega
end Go.Proofs.YtcfjepcflanjbaaGreat
