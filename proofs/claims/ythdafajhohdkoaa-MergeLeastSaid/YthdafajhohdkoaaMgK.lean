/- Contract of package merge: the closure keep: what it writes into its three boxes. -/
import Derived.Test.YthdafajhohdkoaaMgJ
namespace Go.Proofs.Ythdafajhohdkoaa
open Go.RowKit Go.Lab Go.Shelf
theorem ownR_below0 {w w1 : World} {base : Nat} {e : TypeId} {k n : Nat} {v : Value} {xs : List Value} (h : w.ownsRow base e k v n xs) (hb : Below w.heap.size w w1) : w1.ownsRow base e k v n xs := by
  refine ⟨h.1, ?_⟩
  rcases h.2 with h2 | ⟨g, cap, cur, hv, hg, hh, r⟩
  · exact .inl h2
  · exact .inr ⟨g, cap, cur, hv, hg, (hb.block g (Go.lt_of_block hh)).trans hh, r⟩
/-- The three variables that keep writes: a place, a list of pairs, a text. -/
structure KSt (n₀ Bat Bk Bo : Nat) (W : World) (k : Int) (kept : List (Nat × Nat)) (out : List Sym) (vk vo : Value) : Prop where
  ia : Boxed W Bat 3 (.int .i64 k)
  kb : Boxed W Bk 42 vk
  kr : W.ownsRow n₀ 45 2 vk kept.length (pairsC kept)
  ob : Boxed W Bo 23 vo
  or : W.ownsRow n₀ 34 2 vo out.length (symsC out)
  ha : n₀ ≤ Bat
  hk : n₀ ≤ Bk
  ho : n₀ ≤ Bo
  hz : n₀ ≤ W.heap.size
/-- What a step of keep leaves alone. -/
structure Left (n₀ : Nat) (W W' : World) : Prop where
  others : KeepsOthers W W'
  below : Below n₀ W W'
  edits : Keeps Te W W'
theorem Left.refl (n₀ : Nat) (W : World) : Left n₀ W W := ⟨KeepsOthers.refl _, Below.refl _ _, Keeps.refl _ _⟩
theorem Left.trans {n₀ : Nat} {A B C : World} (h : Left n₀ A B) (k : Left n₀ B C) : Left n₀ A C := ⟨h.others.trans k.others, h.below.trans k.below, h.edits.trans k.edits⟩
theorem Left.drew {n₀ : Nat} (W : World) : Left n₀ W W.drew := ⟨KeepsOthers.drew W, (Below.refl _ _).drew, Keeps.drew _ _⟩
theorem te_pair : ¬ Te 45 := by rintro (h | h | h) <;> exact absurd h (by decide)
theorem te_pairs : ¬ Te 42 := by rintro (h | h | h) <;> exact absurd h (by decide)
theorem te_sym : ¬ Te 34 := by rintro (h | h | h) <;> exact absurd h (by decide)
theorem te_syms : ¬ Te 23 := by rintro (h | h | h) <;> exact absurd h (by decide)
theorem te_int : ¬ Te 3 := by rintro (h | h | h) <;> exact absurd h (by decide)
theorem keepsTe_push {W w1 : World} {n₀ B size n : Nat} {e t : TypeId} {v v' u : Value} {xs : List Value} {o : Obj} (hrow : W.ownsRow n₀ e size v n xs) (hgrow : (W.alloc o).grownBy w1 v.ownBlock) (hv1 : Boxed w1 B t u) (he : ¬ Te e) (ht : ¬ Te t) : Keeps Te W (w1.setCell ⟨B, 0, none⟩ v') :=
  ((Keeps.alloc Te W o).trans (Keeps.grown (hrow.alloc _) hgrow (fun _ ht e => he (e ▸ ht)))).trans (Keeps.setCell (a := ⟨B, 0, none⟩) hv1 (fun _ hs e => ht (e ▸ hs)) v')
/-- Another row, of another type, behind a push. -/
theorem row_push {W w1 : World} {n₀ n₁ B size n size' n' : Nat} {e e' t : TypeId} {v v' u y : Value} {xs ys : List Value} {o : Obj} (hrow : W.ownsRow n₀ e size v n xs) (hgrow : (W.alloc o).grownBy w1 v.ownBlock) (hv1 : Boxed w1 B t u)
    (hy : W.ownsRow n₁ e' size' y n' ys) (hne : e' ≠ e) (hte : t ≠ e') : (w1.setCell ⟨B, 0, none⟩ v').ownsRow n₁ e' size' y n' ys := by
  have h1 : w1.ownsRow n₁ e' size' y n' ys := by
    refine (hy.alloc o).kept hgrow ?_
    rcases hy.2 with ⟨rfl, _⟩ | ⟨g, cap, cur, rfl, _, hg, _⟩
    · exact .inl rfl
    · refine .inr (fun e2 => ?_)
      rcases hrow.2 with ⟨rfl, _⟩ | ⟨g', cap', cur', rfl, _, hg', _⟩
      · cases e2
      · simp [Value.ownBlock] at e2
        subst e2
        rw [hg] at hg'
        injection hg' with h1
        injection h1 with _ h2 _
        exact hne h2
  exact ownsRow_setCell_other h1 (fun e2 => hv1.not_row hte h1 e2.symm) _
theorem box_push {W w1 : World} {n₀ B B' size n : Nat} {e t t' : TypeId} {v v' u y : Value} {xs : List Value} {o : Obj} (hrow : W.ownsRow n₀ e size v n xs) (hgrow : (W.alloc o).grownBy w1 v.ownBlock)
    (hy : Boxed W B' t' y) (hne : t' ≠ e) (hv : Boxed W B t u) (htt : t' ≠ t) : Boxed (w1.setCell ⟨B, 0, none⟩ v') B' t' y := by
  have h1 : Boxed w1 B' t' y := (hy.alloc o).kept hgrow (hy.not_row hne hrow)
  refine h1.other (fun e2 => htt ?_) _
  subst e2
  have : W.heap[B']? = _ := hy
  rw [show W.heap[B']? = _ from hv] at this
  injection this with h2
  injection h2 with _ h3 _
  exact h3.symm
section
variable {n₀ Bat Bk Bo : Nat} {W w1 : World} {k : Int} {kept : List (Nat × Nat)} {out : List Sym} {vk vo v' : Value}
theorem KSt.drew (h : KSt n₀ Bat Bk Bo W k kept out vk vo) : KSt n₀ Bat Bk Bo W.drew k kept out vk vo := ⟨h.ia, h.kb, h.kr, h.ob, h.or, h.ha, h.hk, h.ho, h.hz⟩
theorem KSt.pushKept (h : KSt n₀ Bat Bk Bo W k kept out vk vo) {o : Obj} {p : Nat × Nat} (hown' : w1.ownsRow n₀ 45 2 v' (kept.length + 1) (pairsC kept ++ pairsC [p])) (hgrow : (W.alloc o).grownBy w1 vk.ownBlock) :
    KSt n₀ Bat Bk Bo (w1.setCell ⟨Bk, 0, none⟩ v') k (kept ++ [p]) out v' vo ∧ Left n₀ W (w1.setCell ⟨Bk, 0, none⟩ v') ∧ Boxed w1 Bk 42 vk := by
  obtain ⟨hv1, hv2, hr2, hk2, hb2⟩ := h.kb.appended (by decide) h.kr h.hz h.hk hown' hgrow
  refine ⟨⟨box_push h.kr hgrow h.ia (by decide) h.kb (by decide), hv2, ?_, box_push h.kr hgrow h.ob (by decide) h.kb (by decide), row_push h.kr hgrow hv1 h.or (by decide) (by decide), h.ha, h.hk, h.ho, ?_⟩, ⟨hk2, hb2, keepsTe_push h.kr hgrow hv1 te_pair te_pairs⟩, hv1⟩
  · rw [pairsC_append, List.length_append]; exact hr2
  · exact Nat.le_trans h.hz hb2.size
theorem KSt.pushOut (h : KSt n₀ Bat Bk Bo W k kept out vk vo) {o : Obj} {l : List Sym} (hown' : w1.ownsRow n₀ 34 2 v' (out.length + l.length) (symsC out ++ symsC l)) (hgrow : (W.alloc o).grownBy w1 vo.ownBlock) :
    KSt n₀ Bat Bk Bo (w1.setCell ⟨Bo, 0, none⟩ v') k kept (out ++ l) vk v' ∧ Left n₀ W (w1.setCell ⟨Bo, 0, none⟩ v') ∧ Boxed w1 Bo 23 vo := by
  obtain ⟨hv1, hv2, hr2, hk2, hb2⟩ := h.ob.appended (by decide) h.or h.hz h.ho hown' hgrow
  refine ⟨⟨box_push h.or hgrow h.ia (by decide) h.ob (by decide), box_push h.or hgrow h.kb (by decide) h.ob (by decide), row_push h.or hgrow hv1 h.kr (by decide) (by decide), hv2, ?_, h.ha, h.hk, h.ho, ?_⟩, ⟨hk2, hb2, keepsTe_push h.or hgrow hv1 te_sym te_syms⟩, hv1⟩
  · rw [symsC_append, List.length_append]; exact hr2
  · exact Nat.le_trans h.hz hb2.size
theorem KSt.pushOut0 (h : KSt n₀ Bat Bk Bo W k kept out vk vo) {l : List Sym} (hown' : w1.ownsRow n₀ 34 2 v' (out.length + l.length) (symsC out ++ symsC l)) (hgrow : W.grownBy w1 vo.ownBlock) :
    KSt n₀ Bat Bk Bo (w1.setCell ⟨Bo, 0, none⟩ v') k kept (out ++ l) vk v' ∧ Left n₀ W (w1.setCell ⟨Bo, 0, none⟩ v') ∧ Boxed w1 Bo 23 vo := by
  have hv1 : Boxed w1 Bo 23 vo := h.ob.kept hgrow (h.ob.not_row (by decide) h.or)
  have hia : Boxed w1 Bat 3 (.int .i64 k) := h.ia.kept hgrow (h.ia.not_row (by decide) h.or)
  have hkb : Boxed w1 Bk 42 vk := h.kb.kept hgrow (h.kb.not_row (by decide) h.or)
  have hkr : w1.ownsRow n₀ 45 2 vk kept.length (pairsC kept) := by
    refine h.kr.kept hgrow ?_
    rcases h.kr.2 with ⟨rfl, _⟩ | ⟨g, cap, cur, rfl, _, hg, _⟩
    · exact .inl rfl
    · refine .inr (fun e2 => ?_)
      rcases h.or.2 with ⟨rfl, _⟩ | ⟨g', cap', cur', rfl, _, hg', _⟩
      · cases e2
      · simp [Value.ownBlock] at e2
        subst e2
        rw [hg] at hg'
        simp at hg'
  have ne : ∀ {B : Nat} {t : TypeId} {y : Value}, Boxed w1 B t y → t ≠ 23 → B ≠ Bo := fun {B t y} hy ht e => by
    subst e
    have : w1.heap[B]? = _ := hy
    rw [show w1.heap[B]? = _ from hv1] at this
    injection this with h2
    injection h2 with _ h3 _
    exact ht h3.symm
  have hrow : ∀ j, vo.ownBlock = some j → n₀ ≤ j ∧ ∃ cur, W.heap[j]? = some (.cells cur 34 (0, 0)) := fun j ej => by
    rcases h.or.2 with ⟨rfl, _⟩ | ⟨g, cap, cur, rfl, hb, hgb, _⟩
    · simp [Value.ownBlock] at ej
    · obtain rfl : g = j := by simpa [Value.ownBlock] using ej
      exact ⟨hb, cur, hgb⟩
  refine ⟨⟨hia.other (ne hia (by decide)) _, hkb.other (ne hkb (by decide)) _, ownsRow_setCell_other hkr (fun e => hv1.not_row (by decide) hkr e.symm) _, hv1.set _, ?_, h.ha, h.hk, h.ho, ?_⟩, ⟨?_, ?_, ?_⟩, hv1⟩
  · rw [symsC_append, List.length_append]
    exact hown'.kept (grownBy_setCell' w1 Bo v') (.inr (hv1.not_row (by decide) hown').symm)
  · have := hgrow.size
    have := h.hz
    simp [World.setCell]
    omega
  · exact (KeepsOthers.of_grownBy hgrow fun j o ej hj => by obtain ⟨_, cur, hc⟩ := hrow j ej; rw [hc] at hj; cases hj; rfl).trans (KeepsOthers.setCell _ _ _)
  · exact ((Below.refl n₀ W).grown hgrow h.hz fun j ej => (hrow j ej).1).setCell (p := ⟨Bo, 0, none⟩) h.ho v'
  · exact (Keeps.grown h.or hgrow (fun _ ht e => te_sym (e ▸ ht))).trans (Keeps.setCell (a := ⟨Bo, 0, none⟩) hv1 (fun _ hs e => te_syms (e ▸ hs)) v')
theorem KSt.own (h : KSt n₀ Bat Bk Bo W k kept out vk vo) {row : Option Nat} (hg : W.grownBy w1 row) (hr : ∀ r, row = some r → ∃ o : Obj, W.heap[r]? = some o ∧ o.isCells = false) : KSt n₀ Bat Bk Bo w1 k kept out vk vo := by
  have nb : ∀ {B : Nat} {t : TypeId} {y : Value}, Boxed W B t y → some B ≠ row := fun {B t y} hy e => by
    obtain ⟨o, ho, hc⟩ := hr B e.symm
    rw [show W.heap[B]? = _ from hy] at ho
    cases ho
    cases hc
  have nr : ∀ {e : TypeId} {size n : Nat} {v : Value} {xs : List Value}, W.ownsRow n₀ e size v n xs → v.ownBlock = none ∨ v.ownBlock ≠ row := fun {e size n v xs} hy => by
    rcases hy.2 with ⟨rfl, _⟩ | ⟨g, cap, cur, rfl, _, hgb, _⟩
    · exact .inl rfl
    · refine .inr (fun e2 => ?_)
      obtain ⟨o, ho, hc⟩ := hr g (by rw [← e2]; rfl)
      rw [hgb] at ho
      cases ho
      cases hc
  exact ⟨h.ia.kept hg (nb h.ia), h.kb.kept hg (nb h.kb), h.kr.kept hg (nr h.kr), h.ob.kept hg (nb h.ob), h.or.kept hg (nr h.or), h.ha, h.hk, h.ho, Nat.le_trans h.hz hg.size⟩
theorem KSt.setAt (h : KSt n₀ Bat Bk Bo W k kept out vk vo) (k' : Int) : KSt n₀ Bat Bk Bo (W.setCell ⟨Bat, 0, none⟩ (.int .i64 k')) k' kept out vk vo ∧ Left n₀ W (W.setCell ⟨Bat, 0, none⟩ (.int .i64 k')) := by
  have ne : ∀ {B : Nat} {t : TypeId} {y : Value}, Boxed W B t y → t ≠ 3 → B ≠ Bat := fun {B t y} hy ht e => by
    subst e
    have : W.heap[B]? = _ := hy
    rw [show W.heap[B]? = _ from h.ia] at this
    injection this with h2
    injection h2 with _ h3 _
    exact ht h3.symm
  refine ⟨⟨h.ia.set _, h.kb.other (ne h.kb (by decide)) _, ownsRow_setCell_other h.kr (fun e => h.ia.not_row (by decide) h.kr e.symm) _, h.ob.other (ne h.ob (by decide)) _, ownsRow_setCell_other h.or (fun e => h.ia.not_row (by decide) h.or e.symm) _, h.ha, h.hk, h.ho, ?_⟩, ⟨KeepsOthers.setCell _ _ _, (Below.refl n₀ W).setCell (p := ⟨Bat, 0, none⟩) h.ha _, Keeps.setCell (a := ⟨Bat, 0, none⟩) h.ia (fun _ hs e => te_int (e ▸ hs)) _⟩⟩
  simpa [World.setCell] using h.hz
theorem KSt.left (h : KSt n₀ Bat Bk Bo W k kept out vk vo) {W' : World} (hb : Below W.heap.size W W') : KSt n₀ Bat Bk Bo W' k kept out vk vo := by
  have bx : ∀ {B : Nat} {t : TypeId} {y : Value}, Boxed W B t y → Boxed W' B t y := fun {B t y} hy => (hb.block B hy.lt).trans hy
  exact ⟨bx h.ia, bx h.kb, ownR_below0 h.kr hb, bx h.ob, ownR_below0 h.or hb, h.ha, h.hk, h.ho, Nat.le_trans h.hz hb.size⟩
end
/-- The text and the pairs when the places below k + j have been kept. -/
def segP (k n : Nat) : Nat → List (Nat × Nat)
  | 0 => []
  | j + 1 => segP k n j ++ [(k + j, n + j)]
theorem segP_len (k n : Nat) : ∀ j, (segP k n j).length = j
  | 0 => rfl
  | j + 1 => by rw [segP, List.length_append, segP_len k n j]; rfl
def segS (base : List Sym) (k j : Nat) : List Sym := (base.drop k).take j
theorem segS_len {base : List Sym} {k j : Nat} (h : k + j ≤ base.length) : (segS base k j).length = j := by simp [segS]; omega
theorem segS_succ {base : List Sym} {k j : Nat} (h : k + j < base.length) : segS base k (j + 1) = segS base k j ++ [base[k + j]] := by
  unfold segS
  rw [List.take_succ_eq_append_getElem (by simp; omega)]
  simp
theorem grown_undrew {X w : World} {r : Option Nat} (h : X.drew.grownBy w r) : X.grownBy w r := ⟨h.os, h.tape, h.output, h.size, h.block⟩
set_option maxRecDepth 100000 in
set_option maxHeartbeats 4000000 in
theorem keep_any (w0 : World) (Bat Bk Bo Bb : Nat) (fz : Nat × Nat) (vb : Value) (base : List Sym) (hBb : w0.heap[Bb]? = some (.cells #[vb] 23 fz)) (hb : SymsAt w0 vb base) (hlb : base.length ≤ 2048)
    (tt k : Nat) (hto : tt ≤ base.length) (kept : List (Nat × Nat)) (out : List Sym) (vk vo : Value) (w : World) (hbw : Below w0.heap.size w0 w) (h : KSt w0.heap.size Bat Bk Bo w k kept out vk vo) (hl1 : kept.length ≤ 1048576) (hl2 : out.length ≤ 1048576) :
    Calls Try.prog 53 #[.int .i64 tt, .pointer (some ⟨Bat, 0, none⟩), .pointer (some ⟨Bk, 0, none⟩), .pointer (some ⟨Bo, 0, none⟩), .pointer (some ⟨Bb, 0, none⟩)] w fun e w' => e = .returned (.tuple #[]) ∧
      ∃ vk' vo', KSt w0.heap.size Bat Bk Bo w' ((k + (tt - k) : Nat) : Int) (kept ++ segP k out.length (tt - k)) (out ++ segS base k (tt - k)) vk' vo' ∧ Left w0.heap.size w w' := by
  obtain ⟨ab, cb, rfl, hcb, hmb⟩ := hb.form
  unfold maxLen at hmb
  go_enter Try.func53, Try.ntmps53
  go_wp2
  go_loopg [] (tt - k) (fun g wr => ∃ (j m : Nat) (kp : List (Nat × Nat)) (ou : List Sym) (vk' vo' : Value), Hid (j ≤ tt - k ∧ tt - k - j = g ∧ m = k + j ∧ kp = kept ++ segP k out.length j ∧ ou = out ++ segS base k j) ∧ (m ≤ tt ∨ m = k) ∧ kp.length ≤ 1060000 ∧ ou.length ≤ 1060000 ∧ KSt w0.heap.size Bat Bk Bo wr (m : Int) kp ou vk' vo' ∧ Left w0.heap.size w wr)
  case atStart => exact ⟨0, k, kept, out, vk, vo, hidep ⟨by omega, rfl, rfl, by simp [segP], by simp [segS]⟩, .inr rfl, by omega, by omega, h, Left.refl _ _⟩
  case round =>
    obtain ⟨j, m, kp, ou, vk', vo', HI, hmt, hlk, hlo, hS, hL⟩ := hrel
    obtain ⟨ak, ck, rfl, _, _⟩ := (Rd.of_own hS.kr).form
    obtain ⟨ao, co, rfl, _, _⟩ := (Rd.of_own hS.or).form
    have hca := hS.ia.cell
    have hck := hS.kb.cell
    have hco := hS.ob.cell
    have hxw := hbw.trans hL.below
    have hBw := (hxw.block _ (lt_of_block hBb)).trans hBb
    have hcb2 := box_cell hBw
    have hsb := hb.below hxw
    by_cases hlt : m < tt
    · obtain ⟨b, off, rfl, hbl, hd0', hd1'⟩ := hb.at (k := m) (by omega)
      have hd0 := (hxw.cell (p := ⟨b, off + m * 2, none⟩) hbl).trans hd0'
      have hd1 := (hxw.cell (p := ⟨b, off + m * 2 + 1, none⟩) hbl).trans hd1'
      clear hd0' hd1'
      have HSS : Hid (∀ s, base[m]'(by omega) = s → k + j < base.length ∧ segS base k (j + 1) = segS base k j ++ [s]) := hidep (by
        rintro s rfl
        obtain ⟨_, _, hm, _, _⟩ := HI.out
        subst hm
        exact ⟨by omega, segS_succ (by omega)⟩)
      have HSS := hidep (HSS.out _ rfl)
      generalize base[m]'(by omega) = s at *
      obtain ⟨lang, ch⟩ := s
      simp only at hd0 hd1
      clear hsb hb
      have hfr := Rd.fresh wr #[.int .i64 (m : Nat), .int .i64 (ou.length : Nat)] 45 2 1 rfl (by decide)
      go_upto_region 3 with (at_builtin; refine wpList_append_rd _ rfl (.tmp 11) (.tmp 16) rfl slPair w0.heap.size _ _ _ rfl (hS.kr.alloc _) _ _ _ _ rfl hfr (by intro u hu; simp at hu; rcases hu with rfl | rfl <;> rfl) (by unfold maxLen; omega) (by omega) (by have := hS.hz; simp; omega) ?_; intro v2 w2 hown2 hgr2 hat hnl; clear hat hnl hfr; obtain ⟨hS2, hL2, hBx⟩ := hS.pushKept (p := (m, ou.length)) hown2 hgr2; obtain ⟨a2, c2, rfl, _, _⟩ := (Rd.of_own hown2).form; have hbx1 := hBx.cell; have hbx2 := hBx.frozen)
      obtain ⟨w3, hw3⟩ : ∃ w3, w2.setCell ⟨Bk, 0, none⟩ (.slice a2 (kp.length + 1) c2) = w3 := ⟨_, rfl⟩
      rw [hw3] at hS2 hL2 ⊢
      clear hw3 hbx1 hbx2 hBx hown2 hgr2
      have hb3 := hL2.below
      have e0 := (hb3.cell (p := ⟨b, off + m * 2, none⟩) hbl).trans hd0
      have e1 := (hb3.cell (p := ⟨b, off + m * 2 + 1, none⟩) hbl).trans hd1
      have eb := (hb3.cell (p := ⟨Bb, 0, none⟩) (lt_of_block hBb)).trans hcb2
      have ea := hS2.ia.cell
      have eo := hS2.ob.cell
      have ef := hS2.ob.frozen
      have l1 := hS2.ob.lt
      have l2 := hS2.ia.lt
      have l3 : Bb < w3.heap.size := Nat.lt_of_lt_of_le (lt_of_block hBb) hS2.hz
      have l4 : b < w3.heap.size := Nat.lt_of_lt_of_le hbl hS2.hz
      have hI1 : (0 : Int) ≤ (m : Int) := by omega
      have hI2 : (m : Int) < (base.length : Int) := by omega
      clear hd0 hd1 hca hck hco hcb2 hS
      go_region_law (first
        | (have hfr := Rd.fresh w3 #[.int .i64 lang, .int .u8 ch] 34 2 1 rfl (by decide); refine step_append_rd _ (by rfl) (.tmp 18) (.tmp 23) (by rfl) slSyms w0.heap.size (.slice ao ou.length co) _ _ (by rfl) (by exact hS2.or.alloc _) _ _ _ _ (by rfl) (by exact hfr) (by intro u hu; simp at hu; rcases hu with rfl | rfl <;> rfl) (by unfold maxLen; omega) (by omega) (by have := hS2.hz; simp; omega) ?_; intro v4 w4 hown4 hgr4 hat hnl; clear hat hnl hfr; obtain ⟨hS4, hL4, hBx⟩ := hS2.pushOut (l := [⟨lang, ch⟩]) hown4 (grown_undrew hgr4); obtain ⟨a4, c4, rfl, _, _⟩ := (Rd.of_own hown4).form; have hbx1 := hBx.cell; have hbx2 := hBx.frozen; dsimp only)
        | fail)
      all_goals
        obtain ⟨w5, hw5⟩ : ∃ w5, w4.setCell ⟨Bo, 0, none⟩ (.slice a4 (ou.length + 1) c4) = w5 := ⟨_, rfl⟩
        rw [hw5] at hS4 hL4 ⊢
        clear hw5 hbx1 hbx2 hBx hown4 hgr4 e0 e1 eb ea eo ef l1 l2 l3 l4 hS2
        have ea5 := hS4.ia.cell
        have ef5 := hS4.ia.frozen
        have HF := hidep (hS4.setAt ((m : Int) + 1))
        have HL := hidep ((hL.trans hL2).trans hL4)
        clear hS4 hL hL2 hL4 hb3 hxw
        go_wp2
        go_roundg (tt - k - (j + 1))
        case measure =>
          obtain ⟨_, q2, q3, _, _⟩ := HI.out
          omega
        case rel =>
          obtain ⟨q1, q2, q3, q4, q5⟩ := HI.out
          refine ⟨j + 1, m + 1, _, _, _, _, hidep ⟨by omega, by omega, by omega, ?_, ?_⟩, .inl hlt, ?_, ?_, HF.out.1, HL.out.trans HF.out.2⟩
          · rw [segP, ← List.append_assoc, ← q4, q3, q5, List.length_append, segS_len (by omega)]
          · rw [HSS.out.2, ← List.append_assoc, ← q5]
          · have := segP_len k out.length j
            rw [q4, List.length_append, List.length_append, this]
            have := HSS.out.1
            simp
            omega
          · rw [q5, List.length_append, List.length_append, segS_len (by omega)]
            have := HSS.out.1
            simp
            omega
    · have HJ : Hid (j = tt - k) := hidep (by obtain ⟨q1, q2, q3, q4, q5⟩ := HI.out; omega)
      clear hsb
      go_wp2
      go_end0
      obtain ⟨q1, q2, q3, q4, q5⟩ := HI.out
      have hj := HJ.out
      subst hj q3 q4 q5
      exact ⟨rfl, _, _, hS, hL⟩
end Go.Proofs.Ythdafajhohdkoaa
