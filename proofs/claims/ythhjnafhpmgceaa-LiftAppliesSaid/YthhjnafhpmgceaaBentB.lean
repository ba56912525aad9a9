/- Contract: edits with something changed (reference): the walk up to the kinds of change. -/
import Derived.Test.YthhjnafhpmgceaaBentC
namespace Go.Proofs.Ythhjnafhpmgceaa
open Go.RowKit Go.Lab
def ShL (us : List Value) : Prop := ∀ x ∈ us, x = .slice none 0 0 ∨ ∃ g n c, x = .slice (some ⟨g, 0, none⟩) n c
theorem coh_of_apart {us : List Value} (hs : ShL us) (ha : ApartL us) : CohL us := by
  intro x hx y hy g o s n c m cx e1 e2
  obtain ⟨i, hi, hix⟩ := List.getElem_of_mem hx
  obtain ⟨j, hj, hjy⟩ := List.getElem_of_mem hy
  have ho : o = 0 ∧ s = none := by
    rcases hs y hy with h | ⟨g1, n1, c1, h⟩
    · rw [h] at e2; cases e2
    · rw [h] at e2; injection e2 with e2; injection e2 with e2; injection e2 with _ e3 e4; exact ⟨e3.symm, e4.symm⟩
  obtain ⟨rfl, rfl⟩ := ho
  refine ⟨rfl, ?_⟩
  have h1 : x.ownBlock = some g := by rw [e1]; rfl
  have h2 : y.ownBlock = some g := by rw [e2]; rfl
  rcases Nat.lt_trichotomy i j with h | h | h
  · exact absurd (by rw [hjy]; exact h2) (ha i j h hj g (by rw [hix]; exact h1))
  · subst h
    have : x = y := hix.symm.trans hjy
    rw [e1, e2] at this
    injection this with _ h3 _
    omega
  · exact absurd (by rw [hix]; exact h1) (ha j i h hi g (by rw [hjy]; exact h2))
theorem apart_set {us : List Value} (ha : ApartL us) {k : Nat} (hk : k < us.length) {x : Value} (hx : ∀ g, x.ownBlock = some g → (∀ y ∈ us, y.ownBlock ≠ some g) ∨ us[k].ownBlock = some g) : ApartL (us.set k x) := by
  intro i j hij hj g h1
  rw [List.length_set] at hj
  rw [List.getElem_set] at h1 ⊢
  split at h1
  · rename_i hik
    subst hik
    rw [if_neg (by omega)]
    rcases hx g h1 with h | h
    · exact h _ (List.getElem_mem hj)
    · exact ha _ j hij hj g h
  · split
    · rename_i hjk
      subst hjk
      intro h2
      rcases hx g h2 with h | h
      · exact h _ (List.getElem_mem _) h1
      · exact ha i _ hij hk g h1 h
    · exact ha i j hij hj g h1
theorem sh_set {us : List Value} (hs : ShL us) {k : Nat} {x : Value} (hx : x = .slice none 0 0 ∨ ∃ g n c, x = .slice (some ⟨g, 0, none⟩) n c) : ShL (us.set k x) := fun y hy => by
  rcases List.mem_or_eq_of_mem_set hy with h | h
  · exact hs y h
  · rw [h]; exact hx
theorem rel_refl {S : Nat} {us : List Value} (hs : ShL us) : RelL S us us := fun x hx => by
  rcases hs x hx with h | ⟨g, n, c, h⟩
  · exact .inl h
  · exact .inr (.inr ⟨x, hx, g, n, c, n, h, h, Nat.le_refl _⟩)
theorem rel_set {S : Nat} {us : List Value} (hs : ShL us) {k : Nat} {x : Value} (hx : x = .slice none 0 0 ∨ (∃ g n c, x = .slice (some ⟨g, 0, none⟩) n c ∧ S ≤ g) ∨ ∃ y ∈ us, ∃ g n c n', y = .slice (some ⟨g, 0, none⟩) n c ∧ x = .slice (some ⟨g, 0, none⟩) n' c ∧ n ≤ n') : RelL S us (us.set k x) := fun y hy => by
  rcases List.mem_or_eq_of_mem_set hy with h | h
  · exact rel_refl hs y h
  · rw [h]; exact hx
/-- What Bent leaves. -/
def BentTo (w : World) (B b : Nat) (us : List Value) (u : Value) (w' : World) : Prop :=
  ∃ (l' : List Edit) (us' : List Value), us'.length = l'.length ∧ w'.ownsRow w.heap.size 53 3 u l'.length (editsC l' us') ∧ (∀ i (h : i < l'.length) (h' : i < us'.length), w'.ownsRow B 30 2 us'[i] l'[i].ins.length (symsC l'[i].ins)) ∧
    Below B w w' ∧ Keeps (fun t => t ≠ 30) w w' ∧ (∃ uk, (uk = .slice none 0 0 ∨ uk ∈ us) ∧ Spares uk w w') ∧ RelL w.heap.size us us' ∧ (ApartL us → CohL us') ∧ l'.length ≤ us.length + 1 ∧ ∀ e ∈ l', e.ins.length ≤ b + 1
theorem fin_new {w W' : World} {B b : Nat} {us us' : List Value} {u : Value} {l' : List Edit} (hB : B ≤ w.heap.size) (hlen : us'.length = l'.length) (hown : W'.ownsRow w.heap.size 53 3 u l'.length (editsC l' us'))
    (hs : ∀ i (h : i < l'.length) (h' : i < us'.length), W'.ownsRow B 30 2 us'[i] l'[i].ins.length (symsC l'[i].ins)) (hb : Below w.heap.size w W') (hrel : RelL w.heap.size us us') (hcoh : ApartL us → CohL us') (hle : l'.length ≤ us.length + 1)
    (hin : ∀ e ∈ l', e.ins.length ≤ b + 1) : BentTo w B b us u W' :=
  ⟨l', us', hlen, hown, hs, hb.mono hB, Keeps.below _ hb, ⟨_, .inl rfl, Spares.below _ hb⟩, hrel, hcoh, hle, hin⟩
theorem set_ins {l : List Edit} {k : Nat} (hk : k < l.length) (x y : Int) {i : Nat} (h : i < (l.set k ⟨x, y, l[k].ins⟩).length) : (l.set k ⟨x, y, l[k].ins⟩)[i].ins = (l[i]'(by simpa using h)).ins := by
  rw [List.getElem_set]
  split
  · rename_i e
    subst e
    rfl
  · rfl
theorem set_own {W : World} {B : Nat} {l : List Edit} {us : List Value} {k : Nat} {e : Edit} {x : Value} (hx : W.ownsRow B 30 2 x e.ins.length (symsC e.ins))
    (hs : ∀ i (h : i < l.length) (h' : i < us.length), W.ownsRow B 30 2 us[i] l[i].ins.length (symsC l[i].ins)) : ∀ i (h : i < (l.set k e).length) (h' : i < (us.set k x).length), W.ownsRow B 30 2 (us.set k x)[i] (l.set k e)[i].ins.length (symsC (l.set k e)[i].ins) := by
  intro i h h'
  rw [List.length_set] at h h'
  simp only [List.getElem_set]
  by_cases e : k = i
  · subst e
    simp only [if_true]
    exact hx
  · simp only [if_neg e]
    exact hs i h h'
theorem fresh_syms (w : World) : (w.alloc (.cells #[] 30)).ownsRow w.heap.size 30 2 (.slice (some ⟨w.heap.size, 0, none⟩) 0 0) 0 [] := World.ownsRow_lit w #[] 0 (Nat.le_refl _) (by decide) rfl
theorem own_ne {w : World} {base base' : Nat} {e e' : TypeId} {k n k' n' : Nat} {v v' : Value} {xs xs' : List Value} (h : w.ownsRow base e k v n xs) (h' : w.ownsRow base' e' k' v' n' xs') (hne : e ≠ e') {g : Nat} (hg : v.ownBlock = some g) : v'.ownBlock ≠ some g := by
  intro hg'
  rcases h.2 with ⟨h3, _⟩ | ⟨g2, _, _, hv2, _, hh2, _⟩
  · rw [h3] at hg; simp [Value.ownBlock] at hg
  rcases h'.2 with ⟨h4, _⟩ | ⟨g3, _, _, hv3, _, hh3, _⟩
  · rw [h4] at hg'; simp [Value.ownBlock] at hg'
  rw [hv2] at hg
  rw [hv3] at hg'
  simp [Value.ownBlock] at hg hg'
  subst hg hg'
  rw [hh2] at hh3
  simp at hh3
  exact hne hh3.2
/-- The relation of the loop that pushes. -/
def PushR (w : World) (B g0 c1 k b : Nat) (l : List Edit) (us : List Value) (uk : Value) (n : Nat) (uj : Value) (insj : List Sym) (hk : k < l.length) (wr : World) : Prop :=
  wr.ownsRow w.heap.size 53 3 (.slice (some ⟨g0, 0, none⟩) l.length c1) l.length (editsC (l.set k ⟨l[k].pos, l[k].del, insj⟩) (us.set k uj)) ∧ wr.ownsRow B 30 2 uj insj.length (symsC insj) ∧ Spares uk w wr ∧
    ExtV w.heap.size uk n uj insj.length ∧ Below B w wr ∧ Keeps (fun t => t ≠ 30) w wr ∧ insj.length ≤ b
theorem PushR.below {w wr wx : World} {B g0 c1 k b n : Nat} {l : List Edit} {us : List Value} {uk uj : Value} {insj : List Sym} {hk : k < l.length} (h : PushR w B g0 c1 k b l us uk n uj insj hk wr) (hb : Below wr.heap.size wr wx) (hB : B ≤ w.heap.size) : PushR w B g0 c1 k b l us uk n uj insj hk wx := by
  obtain ⟨h1, h2, h3, h4, h5, h6, h7⟩ := h
  exact ⟨ownR_below h1 hb, ownR_below h2 hb, spares_below h3 hb, h4, h5.trans (hb.mono (Nat.le_trans hB h5.size)), h6.trans (Keeps.below _ hb), h7⟩
/-- A push, and the store behind it. -/
theorem PushR.push {w wx w5 : World} {B g0 c1 k b n : Nat} {l : List Edit} {us : List Value} {uk uj v5 : Value} {insj : List Sym} {y : Sym} {hk : k < l.length} (_h : PushR w B g0 c1 k b l us uk n uj insj hk wx) (hl : us.length = l.length) (hB : B ≤ w.heap.size) (hg0 : w.heap.size ≤ g0)
    (hrow : w5.ownsRow w.heap.size 53 3 (.slice (some ⟨g0, 0, none⟩) l.length c1) l.length (editsC (l.set k ⟨l[k].pos, l[k].del, insj⟩) (us.set k uj))) (h5 : w5.ownsRow B 30 2 v5 (insj.length + 1) (symsC insj ++ symsC [y])) (hsp : Spares uk w w5)
    (hext : ExtV w.heap.size uk n v5 (insj.length + 1)) (hbw : Below B w w5) (hkp : Keeps (fun t => t ≠ 30) w w5) (hlen : insj.length + 1 ≤ b) : PushR w B g0 c1 k b l us uk n v5 (insj ++ [y]) hk (w5.setCell ⟨g0, k * 3 + 2, none⟩ v5) := by
  have hst := (hrow.stored (k * 3 + 2) v5).1
  rw [editsC_ins _ _ k v5 (insj ++ [y]) (by simpa using hk) (by simpa using hl), List.set_set, List.set_set] at hst
  simp only [List.getElem_set_self] at hst
  have hne : v5.ownBlock ≠ some g0 := own_ne hrow h5 (by decide) rfl
  rcases hrow.2 with ⟨h00, _⟩ | ⟨g1, _, cur, e1, _, hh, _⟩
  · cases h00
  injection e1 with e1 _ _
  injection e1 with e1
  injection e1 with e1 _ _
  subst e1
  refine ⟨hst, ?_, spares_store hsp hh (by decide) v5, ?_, hbw.setCell (Nat.le_trans hB hg0) v5, ⟨?_, fun b' cur' t fz ht hb => ?_⟩, ?_⟩
  · rw [symsC_append, List.length_append]
    exact ownsRow_setCell_other h5 hne v5
  · rw [List.length_append]
    exact hext
  · simpa [World.setCell] using hkp.1
  · rw [Below.heap_setCell _ _ _ _ (show b' ≠ g0 from fun e => by have := Go.lt_of_block hb; omega)]
    exact hkp.2 b' cur' t fz ht hb
  · rw [List.length_append]
    exact hlen
set_option maxHeartbeats 4000000 in
set_option maxRecDepth 100000 in
theorem bent_any (v : Value) (l : List Edit) (us : List Value) (at_ how by_ : Int) (B b : Nat) (w : World) (hl : us.length = l.length) (hr : Rd w (· = 53) 3 v l.length (editsC l us))
    (hs : ∀ i (h : i < l.length) (h' : i < us.length), w.ownsRow B 30 2 us[i] l[i].ins.length (symsC l[i].ins)) (hB : B ≤ w.heap.size) (hll : l.length ≤ 100) (hb : ∀ e ∈ l, e.ins.length ≤ b) (hb67 : 67 ≤ b) (hb2 : b ≤ 1000000) (hcoh : CohL us)
    (r1 : -9223372036854775808 ≤ at_ ∧ at_ ≤ 9223372036854775807) (r2 : -9223372036854775808 ≤ how ∧ how ≤ 9223372036854775807) (r3 : -9223372036854775808 ≤ by_ ∧ by_ ≤ 9223372036854775807) :
    Calls Try.prog 12 #[v, .int .i64 at_, .int .i64 how, .int .i64 by_] w fun e w' => ∃ u, e = .returned u ∧ BentTo w B b us u w' := by
  have hsh : ShL us := fun x hx => by
    obtain ⟨i, hi, rfl⟩ := List.getElem_of_mem hx
    rcases own_shape (hs i (by omega) hi) with ⟨h, _⟩ | ⟨g, c, h, _⟩
    · exact .inl h
    · exact .inr ⟨g, _, c, h⟩
  have hone := editsC_one l us (fun u hu => by rcases hsh u hu with h | ⟨g, n, c, h⟩ <;> rw [h] <;> rfl)
  have HAR : Hid (∀ (W : World) (x m : Int), -9223372036854775808 ≤ x → x ≤ 9223372036854775807 → Calls Try.prog 9 #[.int .i64 x, .int .i64 m] W fun e w' => e = .returned (.int .i64 (aroundZ x m)) ∧ W = w') := hidep (fun W x m h1 h2 => around_any x m W h1 h2)
  obtain ⟨av, cv, rfl, hcv, hcv2⟩ := hr.form
  have HSH := hidep hsh
  by_cases h0 : l.length = 0
  · have hl0 : l = [] := List.eq_nil_of_length_eq_zero h0
    subst hl0
    have hu0 : us = [] := List.eq_nil_of_length_eq_zero (by simpa using hl)
    subst hu0
    have HR3 := hidep r3
    have ha9 := aroundZ_rng by_ 9 (by omega)
    generalize hA9 : aroundZ by_ 9 = a9 at *
    have HA9 := hidep hA9
    clear hA9
    go_enter Try.func12, Try.ntmps12
    go_wp2_with (first
      | (at_builtin; refine wpList_append_rd _ rfl (.tmp 12) (.tmp 13) rfl slEdits w.heap.size (.slice none 0 0) 0 [] rfl (World.ownsRow_nil _ _ _ _) _ _ _ _ rfl hr hone (by unfold maxLen; simp) (by simp) (Nat.le_refl _) ?_; intro v1 w1 hown1 hgr1 hat hnl; clear hat; obtain rfl := hnl.2 ⟨rfl, rfl⟩; have hb1 : Below w.heap.size w w1 := (Below.refl _ _).grown hgr1 (Nat.le_refl _) (by simp [Value.ownBlock]); clear hgr1 hnl)
      | (go_at_call 9; refine (HAR.out _ _ _ HR3.out.1 HR3.out.2).mono ?_; rintro e w' ⟨rfl, rfl⟩; rw [HA9.out])
      | fail)
    go_ret
    have hlit := World.ownsRow_lit w1 #[.int .i64 (a9 - 1), .int .i64 1, .slice none 0 0] 1 (e := 53) (size := 3) (Nat.le_refl _) (by decide) rfl
    refine ⟨_, rfl, fin_new (l' := [⟨a9 - 1, 1, []⟩]) (us' := [.slice none 0 0]) hB rfl (ownR_base hlit hb1.size) (fun i h h' => ?_) (hb1.alloc hb1.size _) (fun x hx => .inl (List.mem_singleton.1 hx)) (fun _ x hx y hy g o s n c m cx e1 e2 => by rw [List.mem_singleton.1 hx] at e1; cases e1) (by simp) (fun e he => by rw [List.mem_singleton.1 he]; simp)⟩
    have : i = 0 := by simp at h; omega
    subst this
    exact World.ownsRow_nil _ _ _ _
  · go_enter Try.func12, Try.ntmps12
    go_upto_if 17 with (first
      | (at_builtin; refine wpList_append_rd _ rfl (.tmp 12) (.tmp 13) rfl slEdits w.heap.size (.slice none 0 0) 0 [] rfl (World.ownsRow_nil _ _ _ _) _ _ _ _ rfl hr hone (by unfold maxLen; omega) (by omega) (Nat.le_refl _) ?_; intro v1 w1 hown1 hgr1 hat hnl; clear hat hnl; simp only [Nat.zero_add, List.nil_append] at hown1; have hb1 : Below w.heap.size w w1 := (Below.refl _ _).grown hgr1 (Nat.le_refl _) (by simp [Value.ownBlock]); obtain ⟨a1, c1, rfl, hc1, hc2⟩ := (Rd.of_own hown1).form; clear hgr1)
      | fail)
    rcases hown1.2 with ⟨h00, h01⟩ | ⟨g0, cap0, cur0, hv0, hg0, hh0, hc0, hm0, hs0, ht0⟩
    · exact absurd h01 h0
    injection hv0 with hv0 _ hv1
    subst hv0 hv1
    have hL0 : 0 < l.length := by omega
    obtain ⟨k, hk⟩ : ∃ k : Nat, aroundZ at_ l.length = (k : Int) := ⟨(aroundZ at_ l.length).toNat, by have := (aroundZ_rng at_ l.length (by omega)).1; omega⟩
    have hkl : k < l.length := by have := (aroundZ_rng at_ l.length (by omega)).2; omega
    obtain ⟨j, hj⟩ : ∃ j : Nat, aroundZ by_ 7 = (j : Int) := ⟨(aroundZ by_ 7).toNat, by have := (aroundZ_rng by_ 7 (by omega)).1; omega⟩
    have hj7 : j < 7 := by have := (aroundZ_rng by_ 7 (by omega)).2; omega
    have hhr := aroundZ_rng how 6 (by omega)
    generalize hho : aroundZ how 6 = ho at *
    have HK := hidep hk
    have HJ := hidep hj
    have HH := hidep hho
    have HR1 := hidep r1
    have HR2 := hidep r2
    have HR3 := hidep r3
    clear hk hj hho r1 r2 r3
    have hX : ∃ X : Int, (w1.alloc (.cells #[.int .i64 (-1), .int .i64 0, .int .i64 1, .int .i64 2, .int .i64 30, .int .i64 9223372036854775807, .int .i64 (-9223372036854775808)] 3)).cell? ⟨w1.heap.size, j, none⟩ = some (.int .i64 X) := by
      rcases (show j = 0 ∨ j = 1 ∨ j = 2 ∨ j = 3 ∨ j = 4 ∨ j = 5 ∨ j = 6 from by omega) with rfl | rfl | rfl | rfl | rfl | rfl | rfl <;> exact ⟨_, by simp [World.cell?_alloc_new]; rfl⟩
    obtain ⟨X, hX⟩ := hX
    have hne : ((l.length : Int) == 0) = false := by rw [beq_eq_false_iff_ne]; omega
    have hjI : (0 : Int) ≤ (j : Int) := by omega
    have hjI2 : (j : Int) < 7 := by omega
    have hOW := hidep hown1
    go_upto_region 10 with (first
      | (go_at_call 9; refine (HAR.out _ _ _ (by first | exact HR1.out.1 | exact HR2.out.1 | exact HR3.out.1) (by first | exact HR1.out.2 | exact HR2.out.2 | exact HR3.out.2)).mono ?_; rintro e w' ⟨rfl, rfl⟩; first | rw [HK.out] | rw [HJ.out] | rw [HH.out])
      | fail)
    have hb2 : Below w.heap.size w (w1.alloc (.cells #[.int .i64 (-1), .int .i64 0, .int .i64 1, .int .i64 2, .int .i64 30, .int .i64 9223372036854775807, .int .i64 (-9223372036854775808)] 3)) := hb1.alloc hb1.size _
    have hown2 := hOW.out.alloc (.cells #[.int .i64 (-1), .int .i64 0, .int .i64 1, .int .i64 2, .int .i64 30, .int .i64 9223372036854775807, .int .i64 (-9223372036854775808)] 3)
    generalize w1.alloc (.cells #[.int .i64 (-1), .int .i64 0, .int .i64 1, .int .i64 2, .int .i64 30, .int .i64 9223372036854775807, .int .i64 (-9223372036854775808)] 3) = w2 at *
    have hkus : k < us.length := by omega
    have hget := editsC_get l us k hkl hkus
    have hd0 := (hown2.cellAt (k * 3) (by omega)).trans hget.1
    have hd1 := (hown2.cellAt (k * 3 + 1) (by omega)).trans hget.2.1
    have hd2 := (hown2.cellAt (k * 3 + 2) (by omega)).trans hget.2.2
    have hf0 := hown2.frozenAt (k * 3)
    have hf1 := hown2.frozenAt (k * 3 + 1)
    have hf2 := hown2.frozenAt (k * 3 + 2)
    have hkI : (0 : Int) ≤ (k : Int) := by omega
    have hkI2 : (k : Int) < (l.length : Int) := by omega
    have HO2 := hidep hown2
    have HCOH : Hid (ApartL us → CohL us) := hidep (fun ha => coh_of_apart hsh ha)
    have HS := hidep hs
    have HLOWB : Hid (∀ y ∈ us, ∀ g, y.ownBlock = some g → g < w.heap.size) := hidep (fun y hy g hg => by
      obtain ⟨i, hi, rfl⟩ := List.getElem_of_mem hy
      exact ((hs i (by omega) hi).lt g hg).2)
    have hcell := hidep hX
    clear hown1 hOW hown2 hX hh0 ht0 hs0 hget hr hs hsh hone
    rcases (show ho = 0 ∨ ho = 1 ∨ ho = 2 ∨ ho = 3 ∨ ho = 4 ∨ ho = 5 from by omega) with rfl | rfl | rfl | rfl | rfl | rfl
    · go_wp2
      go_ret
      have hbw := hb2.setCell (p := ⟨g0, k * 3, none⟩) hg0 (.int .i64 X)
      have hst := (HO2.out.stored (k * 3) (.int .i64 X)).1
      rw [editsC_pos l us k X hkl hl] at hst
      refine ⟨_, rfl, fin_new (l' := l.set k ⟨X, l[k].del, l[k].ins⟩) (us' := us) hB (by simpa using hl) (by rw [List.length_set]; exact hst) (fun i h h' => ?_) hbw (rel_refl HSH.out) HCOH.out (by simp; omega) (fun e he => ?_)⟩
      · rw [set_ins hkl]; exact ownR_below (HS.out i (by simpa using h) h') hbw
      · rcases List.mem_or_eq_of_mem_set he with h | h
        · have := hb e h; omega
        · have := hb _ (List.getElem_mem hkl); rw [h]; simp only []; omega
    · go_wp2
      go_ret
      have hbw := hb2.setCell (p := ⟨g0, k * 3 + 1, none⟩) hg0 (.int .i64 X)
      have hst := (HO2.out.stored (k * 3 + 1) (.int .i64 X)).1
      rw [editsC_del l us k X hkl hl] at hst
      refine ⟨_, rfl, fin_new (l' := l.set k ⟨l[k].pos, X, l[k].ins⟩) (us' := us) hB (by simpa using hl) (by rw [List.length_set]; exact hst) (fun i h h' => ?_) hbw (rel_refl HSH.out) HCOH.out (by simp; omega) (fun e he => ?_)⟩
      · rw [set_ins hkl]; exact ownR_below (HS.out i (by simpa using h) h') hbw
      · rcases List.mem_or_eq_of_mem_set he with h | h
        · have := hb e h; omega
        · have := hb _ (List.getElem_mem hkl); rw [h]; simp only []; omega
    · -- a character more
      have ha4 := aroundZ_rng by_ 4 (by omega)
      have ha100 := aroundZ_rng by_ 100 (by omega)
      generalize hA4 : aroundZ by_ 4 = a4 at *
      generalize hA100 : aroundZ by_ 100 = a100 at *
      have HA4 := hidep hA4
      have HA100 := hidep hA100
      clear hA4 hA100
      obtain ⟨uk, huk⟩ : ∃ uk, uk = us[k] := ⟨_, rfl⟩
      rw [← huk] at hd2
      have hown : w2.ownsRow B 30 2 uk l[k].ins.length (symsC l[k].ins) := by rw [huk]; exact ownR_below (HS.out k hkl hkus) hb2
      have hbk := hb _ (List.getElem_mem hkl)
      have HUK := hidep huk
      generalize l[k].ins = ins at *
      have hxa : Below w2.heap.size w2 (w2.alloc (.cells #[] 30)) := (Below.refl _ _).alloc (Nat.le_refl _) _
      have hsy := SymsAt.of_own (ownR_below hown hxa)
      have hon := symsC_one ins
      have hg0l := (HO2.out.lt g0 rfl).2
      have hd2a := (hxa.cell (p := ⟨g0, k * 3 + 2, none⟩) hg0l).trans hd2
      clear huk
      go_wp2_with (first
        | (at_builtin; refine wpList_append_rd _ rfl (.tmp 60) (.tmp 65) rfl slSyms w2.heap.size (.slice (some ⟨w2.heap.size, 0, none⟩) 0 0) 0 [] rfl (fresh_syms w2) _ _ _ _ rfl hsy hon (by unfold maxLen; omega) (by omega) (by simp) ?_; intro v3 w3 hown3 hgr3 hat hnl; clear hat hnl; simp only [Nat.zero_add, List.nil_append] at hown3; have hb3 := hxa.grown hgr3 (by simp) (fun g hg => by simp [Value.ownBlock] at hg; omega); obtain ⟨a3, c3, rfl, hc3, hc3'⟩ := (Rd.of_own hown3).form; clear hgr3)
        | (at_builtin; refine wpList_append_rd _ rfl (.tmp 66) (.tmp 75) rfl slSyms w2.heap.size (.slice a3 ins.length c3) _ _ rfl (hown3.alloc _) _ _ _ _ rfl (Rd.fresh w3 #[.int .i64 (a4 - 1), .int .u8 (30 + a100)] 30 2 1 rfl (by decide)) (by intro u hu; simp at hu; rcases hu with rfl | rfl <;> rfl) (by unfold maxLen; omega) (by omega) (by have := hb3.size; simp; omega) ?_; intro v5 w5 hown5 hgr5 hat hnl; clear hat hnl; have hb5 := (hb3.alloc hb3.size (.cells #[.int .i64 (a4 - 1), .int .u8 (30 + a100)] 30)).grown hgr5 (by have := hb3.size; simp; omega) (fun g hg => (hown3.lt g hg).1); have hd5 := (hb5.cell (p := ⟨g0, k * 3 + 2, none⟩) hg0l).trans hd2; have hf5 := (hb5.frozen (p := ⟨g0, k * 3 + 2, none⟩) hg0l).trans hf2; clear hgr5; obtain ⟨a5, c5, rfl, hc5, hc5'⟩ := (Rd.of_own hown5).form)
        | (go_at_call 9; refine (HAR.out _ _ _ HR3.out.1 HR3.out.2).mono ?_; rintro e w' ⟨rfl, rfl⟩; first | rw [HA4.out] | rw [HA100.out])
        | fail)
      go_ret
      have hbw5 := hb2.trans (hb5.mono hb2.size)
      have hst := ((ownR_below HO2.out hb5).stored (k * 3 + 2) (.slice a5 (ins.length + 1) c5)).1
      rw [editsC_ins l us k (.slice a5 (ins.length + 1) c5) (ins ++ [⟨a4 - 1, 30 + a100⟩]) hkl hl] at hst
      have hbw := hbw5.setCell (p := ⟨g0, k * 3 + 2, none⟩) hg0 (.slice a5 (ins.length + 1) c5)
      have hnew : ∀ g, (Value.slice a5 (ins.length + 1) c5).ownBlock = some g → w2.heap.size ≤ g := fun g hg => (hown5.lt g hg).1
      have hshp := own_shape hown5
      have hxo : (w5.setCell ⟨g0, k * 3 + 2, none⟩ (.slice a5 (ins.length + 1) c5)).ownsRow B 30 2 (.slice a5 (ins.length + 1) c5) (ins ++ [(⟨a4 - 1, 30 + a100⟩ : Sym)]).length (symsC (ins ++ [⟨a4 - 1, 30 + a100⟩])) := by
        rw [symsC_append, List.length_append]
        exact ownsRow_setCell_other (ownR_base hown5 (Nat.le_trans hB hb2.size)) (fun e => by have := hnew _ e; simp at this; omega) _
      have hsz2 := hb2.size
      refine ⟨_, rfl, fin_new (l' := l.set k ⟨l[k].pos, l[k].del, ins ++ [⟨a4 - 1, 30 + a100⟩]⟩) (us' := us.set k (.slice a5 (ins.length + 1) c5)) hB (by simpa using hl) (by rw [List.length_set]; exact hst) (set_own hxo (fun i h h' => ownR_below (HS.out i h h') hbw)) hbw
        (rel_set HSH.out (by
          rcases hshp with ⟨h, _⟩ | ⟨g, c, h, hg, _⟩
          · exact .inl h
          · exact .inr (.inl ⟨g, _, c, h, by omega⟩)))
        (fun ha => coh_of_apart (sh_set HSH.out (by
          rcases hshp with ⟨h, _⟩ | ⟨g, c, h, hg, _⟩
          · exact .inl h
          · exact .inr ⟨g, _, c, h⟩)) (apart_set ha hkus (fun g hg => .inl (fun y hy e => by
            have h1 := hnew g hg
            have h2 := HLOWB.out y hy g e
            omega)))) (by simp; omega) (fun e he => ?_)⟩
      rcases List.mem_or_eq_of_mem_set he with h | h
      · have := hb e h; omega
      · rw [h]; simp; omega
    · -- pushes till the text is long
      obtain ⟨a6, ha6⟩ : ∃ a6 : Nat, aroundZ by_ 6 = (a6 : Int) := ⟨(aroundZ by_ 6).toNat, by have := (aroundZ_rng by_ 6 (by omega)).1; omega⟩
      have ha65 : a6 ≤ 5 := by have := (aroundZ_rng by_ 6 (by omega)).2; omega
      have HA6 : Hid (∀ W, Calls Try.prog 9 #[.int .i64 by_, .int .i64 6] W fun e w' => e = .returned (.int .i64 a6) ∧ W = w') := hidep (fun W => by rw [← ha6]; exact HAR.out W by_ 6 HR3.out.1 HR3.out.2)
      clear ha6
      obtain ⟨uk, huk⟩ : ∃ uk, uk = us[k] := ⟨_, rfl⟩
      obtain ⟨n, hn⟩ : ∃ n, n = l[k].ins.length := ⟨_, rfl⟩
      have hbk := hb _ (List.getElem_mem hkl)
      have hfin : Hid (PushR w B g0 c1 k b l us uk n uk l[k].ins hkl w2) := hidep (by
        refine ⟨?_, ?_, Spares.below _ hb2, ?_, hb2.mono hB, Keeps.below _ hb2, hbk⟩
        · rw [huk]
          simp only [List.set_getElem_self]
          have e2 : (⟨l[k].pos, l[k].del, l[k].ins⟩ : Edit) = l[k] := rfl
          rw [e2, List.set_getElem_self]
          exact HO2.out
        · rw [huk]; exact ownR_below (HS.out k hkl hkus) hb2
        · rcases own_shape (HS.out k hkl hkus) with ⟨h, _⟩ | ⟨g, c, h, _⟩
          · exact .inl (huk.trans h)
          · exact .inr (.inr ⟨g, c, by rw [huk, h, hn], by rw [huk, h], by omega⟩))
      have HUK := hidep huk
      have HN := hidep hn
      clear huk hn hd0 hd1 hd2 hf0 hf1 hf2
      go_wp2
      go_loopg [81] (62 + a6 - n) (fun g _ wr => ∃ (uj : Value) (insj : List Sym), 62 + a6 - insj.length = g ∧ Hid (PushR w B g0 c1 k b l us uk n uj insj hkl wr))
      case atStart => exact ⟨uk, l[k].ins, by rw [HN.out], hfin⟩
      case round =>
        obtain ⟨uj, insj, hg, HR⟩ := hrel
        have HG := hidep hg
        clear hg hfin
        obtain ⟨h1, h2, h3, h4, h5, h6, h7⟩ := HR.out
        obtain ⟨aj, cj, huj, hcj, hcj2⟩ := (Rd.of_own h2).form
        subst huj
        unfold maxLen at hcj2
        have hget := editsC_get (l.set k ⟨l[k].pos, l[k].del, insj⟩) (us.set k (.slice aj insj.length cj)) k (by simpa using hkl) (by simpa using hkus)
        have hd2 := (h1.cellAt (k * 3 + 2) (by omega)).trans hget.2.2
        rw [List.getElem_set_self] at hd2
        have hf2 := h1.frozenAt (k * 3 + 2)
        clear hget h1 h2 h3 h4 h5 h6
        by_cases hlt : insj.length < 62 + a6
        · have hI1 : (insj.length : Int) < 62 + (a6 : Int) := by omega
          have hwr : IntKind.i64.wrap (62 + (a6 : Int)) = 62 + (a6 : Int) := IntWalk.i64_in _ (by omega)
          go_wp2
          go_quiet ((go_at_call 9; refine (HA6.out _).mono ?_; rintro e w' ⟨rfl, rfl⟩; exact ⟨rfl, _, rfl⟩))
          clear hwr hd2 hf2
          have HRd := HR.out.below (below_drewN (Below.refl _ _) nq) hB
          clear HR
          generalize wr.drewN nq = wd at *
          obtain ⟨h1, h2, h3, h4, h5, h6, h7⟩ := id HRd
          have hd2 : wd.cell? ⟨g0, k * 3 + 2, none⟩ = some (.slice aj insj.length cj) := by
            have hget := editsC_get (l.set k ⟨l[k].pos, l[k].del, insj⟩) (us.set k (.slice aj insj.length cj)) k (by simpa using hkl) (by simpa using hkus)
            have := (h1.cellAt (k * 3 + 2) (by omega)).trans hget.2.2
            rwa [List.getElem_set_self] at this
          have hxb : Below wd.heap.size wd (wd.alloc (.cells #[.int .i64 0, .int .u8 121] 30)) := (Below.refl _ _).alloc (Nat.le_refl _) _
          have h2x := ownR_below h2 hxb
          have h1x := ownR_below h1 hxb
          have hfr := Rd.fresh wd #[.int .i64 0, .int .u8 121] 30 2 1 rfl (by decide)
          have HRx := hidep (HRd.below hxb hB)
          have hszd := h5.size
          by_cases hroom : insj.length + 1 ≤ cj
          · rcases own_shape h2 with ⟨e0, _⟩ | ⟨gj, cj', e0, hgB, _, _, _⟩
            · injection e0 with _ _ e0
              omega
            injection e0 with e0 _ e1
            subst e0 e1
            have HPU : Hid (∀ w5, w5.ownsRow B 30 2 (.slice (some ⟨gj, 0, none⟩) (insj.length + 1) cj) (insj.length + 1) (symsC insj ++ [.int .i64 0, .int .u8 121]) → (wd.alloc (.cells #[.int .i64 0, .int .u8 121] 30)).grownBy w5 (some gj) →
                w5.cell? ⟨g0, k * 3 + 2, none⟩ = some (.slice (some ⟨gj, 0, none⟩) insj.length cj) ∧ w5.frozen? ⟨g0, k * 3 + 2, none⟩ = false ∧ PushR w B g0 c1 k b l us uk n (.slice (some ⟨gj, 0, none⟩) (insj.length + 1) cj) (insj ++ [⟨0, 121⟩]) hkl (w5.setCell ⟨g0, k * 3 + 2, none⟩ (.slice (some ⟨gj, 0, none⟩) (insj.length + 1) cj))) := hidep (fun w5 hown5 hgr5 => by
              have hrow5 := ownR_other h1x h2x (by decide) hgr5
              have hget := editsC_get (l.set k ⟨l[k].pos, l[k].del, insj⟩) (us.set k (.slice (some ⟨gj, 0, none⟩) insj.length cj)) k (by simpa using hkl) (by simpa using hkus)
              have hc5 := (hrow5.cellAt (k * 3 + 2) (by omega)).trans hget.2.2
              rw [List.getElem_set_self] at hc5
              obtain ⟨_, _, x3, x4, x5, x6, _⟩ := HRx.out
              have hspr := spares_room h2x hown5 (Nat.le_succ _) (by rw [List.take_append_of_le_length (Nat.le_of_eq (symsC_len insj).symm), List.take_of_length_le (Nat.le_of_eq (symsC_len insj))]) hgr5
              refine ⟨hc5, hrow5.frozenAt _, HRx.out.push hl hB hg0 hrow5 hown5 (spares_trans x3 (fun x hx hfx => x4.far x hx hfx) hspr) ?_ (x5.grown hgr5 (Nat.le_trans hB x5.size) (fun g hg => by injection hg with hg; rw [← hg]; exact hgB)) (x6.trans (Keeps.grown h2x hgr5 (fun t ht => ht))) (by omega)⟩
              rcases x4 with h | ⟨g, c, h, hg⟩ | ⟨g, c, h, h', hle⟩
              · cases h
              · injection h with h _ h8
                exact .inr (.inl ⟨gj, cj, rfl, by injection h with h; injection h with h _ _; rw [h]; exact hg⟩)
              · injection h' with h' _ h8
                injection h' with h'
                injection h' with h' _ _
                subst h' h8
                exact .inr (.inr ⟨gj, cj, h, rfl, by omega⟩))
            clear h1 h2 h3 h4 h5 h6 HRd h1x
            go_wp2_with (first
              | (at_builtin; refine wpList_push_room _ rfl (.tmp 97) (.tmp 99) rfl slSyms B gj insj.length cj _ rfl h2x _ _ 1 _ rfl hfr (by intro u hu; simp at hu; rcases hu with rfl | rfl <;> rfl) (by omega) hroom ?_; intro w5 hown5 hgr5; obtain ⟨hc5, hf5, hP5⟩ := HPU.out w5 hown5 hgr5; have HP5 := hidep hP5; clear hP5 hown5 hgr5)
              | fail)
            go_roundg (62 + a6 - (insj.length + 1))
            case measure => have := HG.out; omega
            case rel => exact ⟨_, insj ++ [⟨0, 121⟩], by simp, HP5⟩
          · have HPU : Hid (∀ v5 w5, w5.ownsRow (wd.alloc (.cells #[.int .i64 0, .int .u8 121] 30)).heap.size 30 2 v5 (insj.length + 1) (symsC insj ++ [.int .i64 0, .int .u8 121]) → (wd.alloc (.cells #[.int .i64 0, .int .u8 121] 30)).grownBy w5 none →
                w5.cell? ⟨g0, k * 3 + 2, none⟩ = some (.slice aj insj.length cj) ∧ w5.frozen? ⟨g0, k * 3 + 2, none⟩ = false ∧ PushR w B g0 c1 k b l us uk n v5 (insj ++ [⟨0, 121⟩]) hkl (w5.setCell ⟨g0, k * 3 + 2, none⟩ v5)) := hidep (fun v5 w5 hown5 hgr5 => by
              have hb5 : Below (wd.alloc (.cells #[.int .i64 0, .int .u8 121] 30)).heap.size (wd.alloc (.cells #[.int .i64 0, .int .u8 121] 30)) w5 := (Below.refl _ _).grown hgr5 (Nat.le_refl _) (fun g hg => by cases hg)
              obtain ⟨y1, _, y3, _, y5, y6, _⟩ := HRx.out.below hb5 hB
              have hget := editsC_get (l.set k ⟨l[k].pos, l[k].del, insj⟩) (us.set k (.slice aj insj.length cj)) k (by simpa using hkl) (by simpa using hkus)
              have hc5 := (y1.cellAt (k * 3 + 2) (by omega)).trans hget.2.2
              rw [List.getElem_set_self] at hc5
              have hszx : w.heap.size ≤ (wd.alloc (.cells #[.int .i64 0, .int .u8 121] 30)).heap.size := Nat.le_trans hszd hxb.size
              refine ⟨hc5, y1.frozenAt _, HRx.out.push hl hB hg0 y1 (ownR_base hown5 (Nat.le_trans hB hszx)) y3 ?_ y5 y6 (by omega)⟩
              rcases own_shape hown5 with ⟨h, _⟩ | ⟨g, c, h, hg, _⟩
              · exact .inl h
              · exact .inr (.inl ⟨g, c, h, Nat.le_trans hszx hg⟩))
            clear h1 h2 h3 h4 h5 h6 HRd h1x
            go_wp2_with (first
              | (at_builtin; refine wpList_push_new _ rfl (.tmp 97) (.tmp 99) rfl slSyms B insj.length cj aj _ rfl h2x _ _ 1 _ rfl hfr (by intro u hu; simp at hu; rcases hu with rfl | rfl <;> rfl) (by omega) (by omega) (by unfold maxLen; omega) (by omega) ?_; intro v5 w5 hown5 hgr5; obtain ⟨hc5, hf5, hP5⟩ := HPU.out v5 w5 hown5 hgr5; have HP5 := hidep hP5; obtain ⟨a5, c5, e5, _, _⟩ := (Rd.of_own hown5).form; subst e5; clear hP5 hown5 hgr5)
              | fail)
            go_roundg (62 + a6 - (insj.length + 1))
            case measure => have := HG.out; omega
            case rel => exact ⟨_, insj ++ [⟨0, 121⟩], by simp, HP5⟩
        · have hI1 : 62 + (a6 : Int) ≤ (insj.length : Int) := by omega
          have hwr : IntKind.i64.wrap (62 + (a6 : Int)) = 62 + (a6 : Int) := IntWalk.i64_in _ (by omega)
          go_wp2
          go_quiet ((go_at_call 9; refine (HA6.out _).mono ?_; rintro e w' ⟨rfl, rfl⟩; exact ⟨rfl, _, rfl⟩))
          clear hwr
          go_wp2
          go_ret
          obtain ⟨h1, h2, h3, h4, h5, h6, h7⟩ := HR.out.below (below_drewN (Below.refl _ _) nq) hB
          have hmem : uk ∈ us := by rw [HUK.out]; exact List.getElem_mem _
          refine ⟨_, rfl, l.set k ⟨l[k].pos, l[k].del, insj⟩, us.set k (.slice aj insj.length cj), by simpa using hl, by rw [List.length_set]; exact h1, set_own h2 (fun i h h' => h3.2 B _ _ _ (HS.out i h h') (hcoh.far hmem (List.getElem_mem _))), h5, h6, ⟨uk, .inr hmem, h3⟩, ?_, fun ha => ?_, by simp; omega, fun e he => ?_⟩
          · refine rel_set HSH.out ?_
            rcases h4 with h | ⟨g, c, h, hg⟩ | ⟨g, c, h, h', hle⟩
            · exact .inl h
            · exact .inr (.inl ⟨g, _, c, h, hg⟩)
            · exact .inr (.inr ⟨uk, hmem, g, _, c, _, h, h', hle⟩)
          · refine coh_of_apart (sh_set HSH.out ?_) (apart_set ha hkus (fun g hg => ?_))
            · rcases own_shape h2 with ⟨h, _⟩ | ⟨g, c, h, _⟩
              · exact .inl h
              · exact .inr ⟨g, _, c, h⟩
            · rcases h4 with h | ⟨g1, c, h, hg1⟩ | ⟨g1, c, h, h', hle⟩
              · rw [h] at hg; simp [Value.ownBlock] at hg
              · rw [h] at hg
                simp [Value.ownBlock] at hg
                subst hg
                exact .inl (fun y hy e => by have := HLOWB.out y hy _ e; omega)
              · rw [h'] at hg
                simp [Value.ownBlock] at hg
                subst hg
                exact .inr (by rw [← HUK.out, h]; rfl)
          · rcases List.mem_or_eq_of_mem_set he with h | h
            · have := hb e h; omega
            · rw [h]; show insj.length ≤ b + 1; omega
    · -- an edit twice
      obtain ⟨uk, huk⟩ : ∃ uk, uk = us[k] := ⟨_, rfl⟩
      rw [← huk] at hd2
      have hon : uk.oneCell' = true := by
        rcases HSH.out uk (by rw [huk]; exact List.getElem_mem _) with h | ⟨g, n, c, h⟩ <;> rw [h] <;> rfl
      have HUK := hidep huk
      clear huk
      obtain ⟨e0, he0⟩ : ∃ e0, e0 = l[k] := ⟨_, rfl⟩
      rw [← he0] at hd0 hd1
      have HE0 := hidep he0
      clear he0
      obtain ⟨p0, d0, i0⟩ := e0
      simp only at hd0 hd1
      have hxa : Below w2.heap.size w2 (w2.alloc (.cells #[.int .i64 p0, .int .i64 d0, uk] 53)) := (Below.refl _ _).alloc (Nat.le_refl _) _
      have hfr := Rd.fresh w2 #[.int .i64 p0, .int .i64 d0, uk] 53 3 1 rfl (by decide)
      have hown3 := ownR_below HO2.out hxa
      have hsz2 := hb2.size
      go_wp2_with (first
        | (at_builtin; refine wpList_append_rd _ rfl (.tmp 105) (.tmp 110) rfl slEdits w.heap.size (.slice (some ⟨g0, 0, none⟩) l.length c1) _ _ rfl hown3 _ _ _ _ rfl hfr (by intro u hu; simp at hu; rcases hu with rfl | rfl | rfl <;> first | rfl | exact hon) (by unfold maxLen; omega) (by omega) (by simp; omega) ?_; intro v4 w4 hown4 hgr4 hat hnl; clear hat hnl; have hb4 := (hb2.trans (hxa.mono hb2.size)).grown hgr4 (by simp; omega) (fun g hg => (hown3.lt g hg).1))
        | fail)
      go_ret
      have hmem : ∀ x, x ∈ us ++ [uk] → x ∈ us := fun x hx => by
        rcases List.mem_append.1 hx with h | h
        · exact h
        · rw [List.mem_singleton.1 h, HUK.out]; exact List.getElem_mem _
      refine ⟨_, rfl, fin_new (l' := l ++ [⟨p0, d0, i0⟩]) (us' := us ++ [uk]) hB (by simp [hl]) (by rw [editsC_snoc _ _ _ _ hl, List.length_append]; exact hown4) (fun i h h' => ?_) hb4 (fun x hx => rel_refl HSH.out x (hmem x hx)) (fun ha x hx y hy => HCOH.out ha x (hmem x hx) y (hmem y hy)) (by simp; omega) (fun e he => ?_)⟩
      · by_cases hi : i < l.length
        · simp only [List.getElem_append_left hi]
          rw [List.getElem_append_left (by omega)]
          exact ownR_below (HS.out i hi (by omega)) hb4
        · have hi2 : i = l.length := by simp at h; omega
          subst hi2
          rw [List.getElem_append_right (by omega)]
          simp only [List.getElem_append_right (Nat.le_refl _), hl, Nat.sub_self, List.getElem_cons_zero]
          have := HS.out k hkl hkus
          rw [← HE0.out, ← HUK.out] at this
          exact ownR_below this hb4
      · rcases List.mem_append.1 he with h | h
        · have := hb e h; omega
        · rw [List.mem_singleton.1 h, HE0.out]
          have := hb _ (List.getElem_mem hkl); omega
    · -- nothing inserted, nothing taken out
      go_wp2
      go_ret
      have hbw := (hb2.setCell (p := ⟨g0, k * 3 + 2, none⟩) hg0 (.slice none 0 0)).setCell (p := ⟨g0, k * 3 + 1, none⟩) hg0 (.int .i64 0)
      have hst := (HO2.out.stored (k * 3 + 2) (.slice none 0 0)).1
      rw [editsC_ins l us k (.slice none 0 0) [] hkl hl] at hst
      have hst2 := (hst.stored (k * 3 + 1) (.int .i64 0)).1
      rw [editsC_del _ _ k 0 (by simpa using hkl) (by simpa using hl), List.set_set] at hst2
      simp only [List.getElem_set_self] at hst2
      refine ⟨_, rfl, fin_new (l' := l.set k ⟨l[k].pos, 0, []⟩) (us' := us.set k (.slice none 0 0)) hB (by simpa using hl) (by rw [List.length_set]; exact hst2) (set_own (World.ownsRow_nil _ _ _ _) (fun i h h' => ownR_below (HS.out i h h') hbw)) hbw (rel_set HSH.out (.inl rfl)) (fun ha => coh_of_apart (sh_set HSH.out (.inl rfl)) (apart_set ha hkus (fun g hg => by simp [Value.ownBlock] at hg))) (by simp; omega) (fun e he => ?_)⟩
      rcases List.mem_or_eq_of_mem_set he with h | h
      · have := hb e h; omega
      · rw [h]; simp
end Go.Proofs.Ythhjnafhpmgceaa
