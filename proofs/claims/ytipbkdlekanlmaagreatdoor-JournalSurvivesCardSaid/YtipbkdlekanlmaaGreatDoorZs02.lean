/- Journal: filled. -/
import Derived.Test.YtipbkdlekanlmaaGreatDoorZm02
import Derived.Test.YtipbkdlekanlmaaGreatDoorZr30
import Derived.Test.YtipbkdlekanlmaaGreatDoorZs01
namespace Go.Proofs.YtipbkdlekanlmaaGreatDoor
open Go.RowKit Go.Lab Go.Disk Go.Jn
attribute [local go_sem] Oper.semAt_some
set_option maxRecDepth 100000
theorem range_map61 (f : Nat → Value) : (List.range 61).map f = [f 0, f 1, f 2, f 3, f 4, f 5, f 6, f 7, f 8, f 9, f 10, f 11, f 12, f 13, f 14, f 15, f 16, f 17, f 18, f 19, f 20, f 21, f 22, f 23, f 24, f 25, f 26, f 27, f 28, f 29, f 30, f 31, f 32, f 33, f 34, f 35, f 36, f 37, f 38, f 39, f 40, f 41, f 42, f 43, f 44, f 45, f 46, f 47, f 48, f 49, f 50, f 51, f 52, f 53, f 54, f 55, f 56, f 57, f 58, f 59, f 60] := rfl
theorem frame61 (t : Array Value) (ds : List Deferred) (h : t.size = 61) : ({ tmps := t, defers := ds } : Act) = { tmps := #[slot t 0, slot t 1, slot t 2, slot t 3, slot t 4, slot t 5, slot t 6, slot t 7, slot t 8, slot t 9, slot t 10, slot t 11, slot t 12, slot t 13, slot t 14, slot t 15, slot t 16, slot t 17, slot t 18, slot t 19, slot t 20, slot t 21, slot t 22, slot t 23, slot t 24, slot t 25, slot t 26, slot t 27, slot t 28, slot t 29, slot t 30, slot t 31, slot t 32, slot t 33, slot t 34, slot t 35, slot t 36, slot t 37, slot t 38, slot t 39, slot t 40, slot t 41, slot t 42, slot t 43, slot t 44, slot t 45, slot t 46, slot t 47, slot t 48, slot t 49, slot t 50, slot t 51, slot t 52, slot t 53, slot t 54, slot t 55, slot t 56, slot t 57, slot t 58, slot t 59, slot t 60], defers := ds } := by
  have e : t = ((List.range 61).map (slot t)).toArray := by
    apply Array.ext
    · simp [h]
    · intro i h1 h2
      simp [slot, Array.getD, h1]
  rw [range_map61] at e
  exact congrArg (fun x => ({ tmps := x, defers := ds } : Act)) e
theorem JOn.capF {B : Nat → Prop} {w : World} {lo : Nat} {p dv : Value} {j : JZ} (h : JOn B w lo p dv j) : JOn (fun x => B x ∧ x < w.heap.size) w lo p dv j := by
  obtain ⟨b, nv, bv, tv, hp, hj, h1, h2, h3, h4⟩ := h
  exact ⟨b, nv, bv, tv, hp, hj, ⟨h1, lt_of_block hj.box⟩, fun x hx => ⟨h2 x hx, (hj.rn.lt x hx).2⟩, fun x hx => ⟨h3 x hx, (hj.rb.lt x hx).2⟩, fun x hx => ⟨h4 x hx, (hj.rt.lt x hx).2⟩⟩
theorem jat_ptrF {w : World} {lo : Nat} {p dv : Value} {j : JZ} (h : JAt w lo p dv j) : ∃ b, p = .pointer (some ⟨b, 0, none⟩) := by
  obtain ⟨b, nv, bv, tv, hp, _⟩ := h
  exact ⟨b, hp⟩
/-- A journal, its disk, a row with the texts so far, a step. -/
structure FiS (B : Nat → Prop) (lo dlo dhi E : Nat) (cs : Array Value) (pj dv tv : Value) (j : JZ) (D : Dk) (tx : List ByteArray) (w0 X : World) : Prop where
  jn : JOn B X lo pj dv j
  dk : DiskAt X dlo dhi dv D
  rt : X.ownsRow dhi 9 1 tv tx.length (strL tx)
  tb : ∀ x, tv.ownBlock = some x → ¬ B x
  bB : ∀ x, B x → dhi ≤ x ∧ x < X.heap.size
  box : X.heap[E]? = some (.cells cs 56)
  lw : dlo ≤ dhi ∧ dhi ≤ X.heap.size
  bel : Below dlo w0 X
section
variable {B : Nat → Prop} {lo dlo dhi E : Nat} {cs : Array Value} {pj dv tv : Value} {j : JZ} {D : Dk} {tx : List ByteArray} {w0 X X' : World}
theorem FiS.below (h : FiS B lo dlo dhi E cs pj dv tv j D tx w0 X) (hb : Below X.heap.size X X') : FiS B lo dlo dhi E cs pj dv tv j D tx w0 X' :=
  ⟨h.jn.below hb, h.dk.below hb, own_below h.rt hb, h.tb, fun x hx => ⟨(h.bB x hx).1, Nat.lt_of_lt_of_le (h.bB x hx).2 hb.size⟩, below_push hb h.box, ⟨h.lw.1, Nat.le_trans h.lw.2 hb.size⟩, h.bel.trans (hb.mono (Nat.le_trans h.lw.1 h.lw.2))⟩
theorem turned_rowF {W W' : World} {r : Option Nat} (hg : W.grownBy W' r) : Turned (fun x => r = some x) W W' := ⟨hg.os, hg.tape, hg.output, hg.size, fun b hb hn => hg.block b hb (fun e => hn e.symm)⟩
theorem FiS.push_t (h : FiS B lo dlo dhi E cs pj dv tv j D tx w0 X) {v : Value} {x : ByteArray} (ho : X'.ownsRow dhi 9 1 v (tx.length + 1) (strL tx ++ [.string x])) (hg : X.grownBy X' tv.ownBlock) (hd : v.ownBlock = tv.ownBlock ∨ v.ownBlock = some X.heap.size) :
    FiS B lo dlo dhi E cs pj dv v j D (tx ++ [x]) w0 X' :=
  ⟨h.jn.turned (turned_rowF hg) (fun y hy e => h.tb y e hy), h.dk.turned (turned_rowF hg) (fun y _ h2 e => by have := (h.rt.lt y e).1; omega), by rw [List.length_append, strL_snoc]; exact ho, fun y hy hB => by
    rcases hd with hd | hd
    · exact h.tb y (by rw [← hd]; exact hy) hB
    · rw [hd] at hy
      injection hy with hy
      have := (h.bB y hB).2
      omega, fun y hy => ⟨(h.bB y hy).1, Nat.lt_of_lt_of_le (h.bB y hy).2 hg.size⟩, grown_other h.rt hg h.box (by decide), ⟨h.lw.1, Nat.le_trans h.lw.2 hg.size⟩, below_own h.bel hg (fun r hr => Nat.le_trans h.lw.1 (own_blk h.rt r hr)) (Nat.le_trans h.lw.1 h.lw.2)⟩
theorem FiS.step (h : FiS B lo dlo dhi E cs pj dv tv j D tx w0 X) {j' : JZ} {D' : Dk} (hj : JOn (fun x => B x ∨ X.heap.size ≤ x) X' lo pj dv j') (hd : DiskAt X' dlo dhi dv D') (hT : Turned (fun x => (dlo ≤ x ∧ x < dhi) ∨ B x) X X') (hE : E < dlo ∨ dhi ≤ E) (hnE : ¬ B E) :
    FiS (fun x => (B x ∨ X.heap.size ≤ x) ∧ x < X'.heap.size) lo dlo dhi E cs pj dv tv j' D' tx w0 X' := by
  have hz := hT.size
  have lw := h.lw
  refine ⟨hj.capF, hd, ownsRow_turned h.rt hT (fun y hy ht => ?_), fun y hy hx => ?_, fun y hy => ⟨?_, hy.2⟩, hT.cells h.box (fun ht => ?_), ⟨lw.1, by omega⟩, h.bel.trans (hT.toB (fun y hy => ?_) (by omega))⟩
  · rcases ht with ht | ht
    · have := (h.rt.lt y hy).1; omega
    · exact h.tb y hy ht
  · rcases hx.1 with h1 | h1
    · exact h.tb y hy h1
    · have := (h.rt.lt y hy).2; omega
  · rcases hy.1 with h1 | h1
    · exact (h.bB y h1).1
    · omega
  · rcases ht with ht | ht
    · omega
    · exact hnE ht
  · rcases hy with hy | hy
    · exact hy.1
    · have := (h.bB y hy).1; omega
theorem FiS.turn (h : FiS B lo dlo dhi E cs pj dv tv j D tx w0 X) {D' : Dk} (hd : DiskAt X' dlo dhi dv D') (hT : Turn dlo dhi X X') (hE : E < dlo ∨ dhi ≤ E) : FiS B lo dlo dhi E cs pj dv tv j D' tx w0 X' := by
  have hz := hT.size
  have lw := h.lw
  exact ⟨h.jn.turned (Turned.of_turn hT) (fun x hx ht => by have := (h.bB x hx).1; omega), hd, ownsRow_turned h.rt (Turned.of_turn hT) (fun y hy ht => by have := (h.rt.lt y hy).1; omega), h.tb, fun x hx => ⟨(h.bB x hx).1, Nat.lt_of_lt_of_le (h.bB x hx).2 hz⟩, (hT.block E (lt_of_block h.box) (by omega)).trans h.box, ⟨lw.1, by omega⟩, h.bel.trans (hT.below (Nat.le_refl _) (by omega))⟩
end
/-- The state of the loop. -/
def FiI (n k : Nat) (w : World) (dhi lo : Nat) (pj dv tv iv : Value) (wr : World) : Prop := ∃ (i : Nat) (j : JZ) (D : Dk) (segs : List Seg) (B : Nat → Prop), i ≤ k ∧ iv = .int .i64 (i : Nat) ∧ SInv j D segs ∧ segs.length ≤ i ∧ JOk j n i ∧ D.s.length = n ∧ (∀ s ∈ j.texts, s.size ≤ 8100) ∧
  JOn B wr lo pj dv j ∧ DiskAt wr w.heap.size dhi dv D ∧ wr.ownsRow dhi 9 1 tv j.texts.length (strL j.texts) ∧ (∀ x, tv.ownBlock = some x → ¬ B x) ∧ (∀ x, B x → dhi ≤ x ∧ x < wr.heap.size) ∧ Below w.heap.size w wr
/-- What filled leaves. -/
def FilledR (n q : Nat) (tv : Value) (w w' : World) : Prop := ∃ (j : JZ) (D : Dk) (segs : List Seg) (dhi : Nat), SInv j D segs ∧ segs.length ≤ 12 ∧ JOk j n 12 ∧ D.s.length = n ∧ (∀ s ∈ j.texts, s.size ≤ 8100) ∧
  DiskAt w' w.heap.size dhi (.pointer (some ⟨q, 0, none⟩)) D ∧ w'.ownsRow dhi 9 1 tv j.texts.length (strL j.texts) ∧ Below w.heap.size w w'
theorem jz0_okF (n : Nat) : JOk jz0 n 0 := by
  refine ⟨?_, ?_, ?_, ?_, ?_, ?_, ?_, ?_⟩
  all_goals unfold jz0
  all_goals simp
theorem filled_bad (n : Int) (sv : Value) (w : World) (h : n < 1) : Calls Tryz.prog 15 #[.int .i64 n, sv] w fun e w' => e = .returned (.tuple #[.pointer none, .slice none 0 0, .bool false]) ∧ w' = w := by
  have HN := hidep (new_bad n w (.inl h))
  go_enter Tryz.func15, Tryz.ntmps15
  go_wp2_with (first
    | (go_at_call 8; refine HN.out.mono ?_; rintro e w1 ⟨rfl, rfl⟩)
    | fail)
  go_ret3
  exact ⟨rfl, rfl⟩
set_option maxHeartbeats 2000000 in
theorem filled_any (n : Nat) (sv : Value) (L : List StepZ) (w : World) (hn1 : 1 ≤ n ∧ n ≤ 200) (hL : StepsAt w sv L) (hl : L.length ≤ 12) (hk : w.rangeAt 2 0 (u32C ks0)) :
    Calls Tryz.prog 15 #[.int .i64 n, sv] w fun e w' => ∃ (q : Nat) (tv : Value), e = .returned (.tuple #[.pointer (some ⟨q, 0, none⟩), tv, .bool true]) ∧ FilledR n q tv w w' := by
  have HK := hidep hk
  clear hk
  obtain ⟨sa, sc, rfl, hsl, hsc⟩ := hL.form
  have HL := hidep hL
  unfold maxLen at hsc
  obtain ⟨k, hkd⟩ : ∃ k, k = L.length := ⟨_, rfl⟩
  rw [← hkd] at hsl hl ⊢
  have HKD := hidep hkd
  clear hkd hL
  have HN := hidep (new_any n w hn1.1 (by omega))
  go_enter Tryz.func15, Tryz.ntmps15
  go_upto_region 4 with (first
    | (go_at_call 8; refine HN.out.mono ?_; rintro e w1 ⟨dv, rfl, hd1, hb1⟩; obtain ⟨q, hq⟩ := disk_ptr hd1; subst hq)
    | fail)
  obtain ⟨dhi, hdh⟩ : ∃ dhi, dhi = w1.heap.size := ⟨_, rfl⟩
  rw [← hdh] at hd1
  have hlw : w.heap.size ≤ dhi := by rw [hdh]; exact hb1.size
  have hop := open_any _ (newD n) w1 _ _ hd1 rfl (HK.out.below hb1)
  rw [open_sinv (sinv_new n hn1.1 (by omega))] at hop
  have HOP := hidep hop
  have HD1 := hidep (And.intro hd1 (And.intro hb1 hdh))
  clear hop hd1 hb1 hdh HN
  go_upto_region 7 with (first
    | (go_at_call 12; refine HOP.out.mono ?_; rintro e w2 ⟨pj, rfl, hj2, hb2⟩; obtain ⟨jb, hpj⟩ := jat_ptrF hj2; subst hpj)
    | fail)
  obtain ⟨lo, hlod⟩ : ∃ lo, lo = w1.heap.size := ⟨_, rfl⟩
  have hlo : dhi ≤ lo := by rw [hlod, HD1.out.2.2]; exact Nat.le_refl _
  rw [← hlod] at hj2
  have hbw2 := HD1.out.2.1.trans (hb2.mono HD1.out.2.1.size)
  have HG := hidep (show FiI n k w dhi lo (.pointer (some ⟨jb, 0, none⟩)) (.pointer (some ⟨q, 0, none⟩)) (.slice none 0 0) (.int .i64 0) w2 from
    ⟨0, jz0, newD n, [], _, Nat.zero_le _, rfl, sinv_new n hn1.1 (by omega), Nat.le_refl _, jz0_okF n, by simp [newD], (fun s hs => by cases hs), hj2.on, HD1.out.1.below hb2, ⟨rfl, .inl ⟨rfl, rfl⟩⟩, (fun x hx => by cases hx), (fun x hx => ⟨by omega, hx.2⟩), hbw2⟩)
  clear hj2 hbw2 hb2 HOP HD1 hlod
  go_upto_region 9 with (fail)
  refine wp_loop (LoopI 61 (fun tm ds wr => (slot tm 7) = .pointer (some ⟨q, 0, none⟩) ∧ (slot tm 9) = .pointer (some ⟨jb, 0, none⟩) ∧ (slot tm 38) = .slice sa k sc ∧ (slot tm 39) = .int .i64 (k : Nat) ∧ ds = [] ∧ FiI n k w dhi lo (.pointer (some ⟨jb, 0, none⟩)) (.pointer (some ⟨q, 0, none⟩)) (slot tm 11) (slot tm 40) wr)) (fun a' wr => k - natI (a'.tmps.getD 40 undef)) ?mainStart ?mainRound
  case' mainStart => refine LoopI.mk rfl ?_
  case' mainRound => (rintro ⟨t, ds⟩ wr ⟨hts, hrel⟩; dsimp only at hts hrel; rw [frame61 t ds hts])
  case mainStart => exact ⟨rfl, rfl, rfl, rfl, rfl, HG.out⟩
  clear HG
  obtain ⟨e7, e9, e38, e39, hds, i, j, D, segs, B, hi, e40, hsi, hsl2, hjo, hDl, hsz, hj, hd, hrt, htb, hB, hbw⟩ := hrel
  subst hds
  obtain ⟨tv, htv⟩ : ∃ tv, tv = slot t 11 := ⟨_, rfl⟩
  rw [← htv] at hrt htb
  rw [e7, e9, e38, e39, e40, ← htv]
  clear e7 e9 e38 e39 e40 htv hts
  have hbs := hbw.size
  have hdw : dhi ≤ wr.heap.size := by
    obtain ⟨b, g, mb, wb, c, l, P, W, hp, h⟩ := hd
    exact h.hi
  by_cases hik : i < k
  · have hiki : (i : Int) < (k : Int) := by omega
    have hi0 : (0 : Int) ≤ (i : Int) := by omega
    have hiL : i < L.length := by rw [← HKD.out]; exact hik
    have hsteps := HL.out.below hbw
    rw [show k = L.length from HKD.out] at hiki hik hsl hl ⊢
    obtain ⟨g, o, u, rfl, hg, hrg, hpk, hok⟩ := hsteps.at hiL
    obtain ⟨pa, pc, rfl, _, _⟩ := hpk.1.form
    obtain ⟨st, hst⟩ : ∃ st, st = L[i] := ⟨_, rfl⟩
    rw [← hst] at hrg hok
    obtain ⟨pl, hpl⟩ : ∃ pl, pl = st.picks.length := ⟨_, rfl⟩
    rw [← hpl] at hrg
    obtain ⟨cs, hcs⟩ : ∃ cs, cs = stepC st (.slice pa pl pc) := ⟨_, rfl⟩
    rw [← hcs] at hrg
    have hcs6 : cs.length = 6 := by rw [hcs]; rfl
    have hone : cs.toArray.all (·.oneCell') = true := by rw [hcs]; simp [stepC, Value.oneCell']
    clear hst hpl hpk hsteps
    have HI := hidep (And.intro hj (And.intro hd (And.intro hrt (And.intro htb (And.intro hB hbw)))))
    have HS := hidep (And.intro hsi (And.intro hsl2 (And.intro hjo (And.intro hDl hsz))))
    clear hj hd hrt htb hB hbw hsi hsl2 hjo hDl hsz
    go_upto_region 10 with (fail)
    refine wp_region_lit ?_
    refine wpList_value rfl (v := .pointer (some ⟨g, o + i * 6, none⟩)) (w' := wr) (by
      have e : ∀ ev : Operand → Value, ev (.tmp 38) = .slice (some ⟨g, o, none⟩) L.length sc → ev (.tmp 40) = .int .i64 (i : Int) → (execOp ev ⟨some 42, .indexAddr 40 (.tmp 38) (.tmp 40), 0, "", #[], none⟩).run Tryz.prog wr = .ok (.value (.pointer (some ⟨g, o + i * 6, none⟩))) wr := fun ev ha hc => by
        go_simp
      exact e _ (by kernel_rfl) (by kernel_rfl)) ?_
    refine wpList_load_mid rfl 56 _ rfl g (o + i * 6) (by kernel_rfl) cs _ hrg row_step.1.choose_spec.1 row_step.1.choose_spec.2 (by rw [hcs6]; exact row_step.2) ?_
    refine wpList_alloc_row zero_step _ rfl rfl ?_
    refine wpList_store_last (t := 56) (c' := cs.toArray) wr (by rw [List.size_toArray, hcs6]; exact row_step.2) (by simp [hcs6]) hone rfl _ _ rfl (by kernel_rfl) (by kernel_rfl) ?_
    refine wpList_nil ?_
    apply_assumption
    refine wp_abs (fun X => X.heap[wr.heap.size]? = some (.cells cs.toArray 56) ∧ Below wr.heap.size wr X) ⟨heap_alloc_new _ _, (Below.refl _ _).alloc (Nat.le_refl _) _⟩ ?_
    rintro X ⟨hqE, hbX⟩
    obtain ⟨E, hE⟩ : ∃ E, E = wr.heap.size := ⟨_, rfl⟩
    rw [← hE] at hqE
    have hEd : dhi ≤ E := by omega
    have hnE : ¬ B E := fun h => by have := (HI.out.2.2.2.2.1 E h).2; omega
    refine wp_cutA 61 (fun tm ds => ds = [] ∧ slot tm 7 = .pointer (some ⟨q, 0, none⟩) ∧ slot tm 9 = .pointer (some ⟨jb, 0, none⟩) ∧ slot tm 11 = tv ∧ slot tm 13 = .pointer (some ⟨E, 0, none⟩) ∧ slot tm 38 = .slice (some ⟨g, o, none⟩) L.length sc ∧ slot tm 39 = .int .i64 (L.length : Nat) ∧ slot tm 40 = .int .i64 (i : Nat)) (by kernel_rfl) (by exact ⟨by kernel_rfl, by kernel_rfl, by kernel_rfl, by kernel_rfl, by rw [hE]; kernel_rfl, by kernel_rfl, by kernel_rfl, by kernel_rfl⟩) ?_
    rintro tA dA h61 ⟨rfl, e7, e9, e11, e13, e38, e39, e40⟩
    rw [frame61 tA [] h61, e7, e9, e11, e13, e38, e39, e40]
    rw [hcs] at hqE
    have hF : FiS B lo w.heap.size dhi E (stepC st (.slice pa pl pc)).toArray (.pointer (some ⟨jb, 0, none⟩)) (.pointer (some ⟨q, 0, none⟩)) tv j D j.texts w X :=
      ⟨HI.out.1.below hbX, HI.out.2.1.below hbX, own_below HI.out.2.2.1 hbX, HI.out.2.2.2.1, fun x hx => ⟨(HI.out.2.2.2.2.1 x hx).1, Nat.lt_of_lt_of_le (HI.out.2.2.2.2.1 x hx).2 hbX.size⟩, hqE, ⟨hlw, Nat.le_trans hdw hbX.size⟩, HI.out.2.2.2.2.2.trans (hbX.mono hbs)⟩
    obtain ⟨c0, c1, c2, c3, c4, c5⟩ := step_cells hqE
    have HF := hidep hF
    have HTX := hidep (fun Y => textR_any st.kind st.i st.bit st.size st.fill pa pl pc Y hok.2.2.2.2)
    obtain ⟨tx, htx⟩ : ∃ tx, tx = stepText st.size st.fill := ⟨_, rfl⟩
    have htxs := text_size st.size st.fill
    rw [← htx] at HTX htxs
    have HAP := hidep (fun Y (hY : Below X.heap.size X Y) => append_any (.pointer (some ⟨jb, 0, none⟩)) (.pointer (some ⟨q, 0, none⟩)) j D tx Y lo w.heap.size dhi B (HF.out.below hY).jn (HF.out.below hY).dk hlo (by omega) ⟨HS.out.2.2.1.s0, by have := HS.out.2.2.1.s1; omega⟩ ⟨HS.out.2.2.1.n0, by have := HS.out.2.2.1.n1; omega⟩ ⟨by have := HS.out.2.2.1.nl; omega, by have := HS.out.2.2.1.tl; omega⟩ (HK.out.below (HF.out.below hY).bel))
    have hrok := append_ok HS.out.2.2.1 HS.out.2.2.2.1 tx
    have hrin := app_sinv HS.out.1 tx
    obtain ⟨r, hr⟩ : ∃ r, r = appendZ j D tx := ⟨_, rfl⟩
    rw [← hr] at HAP hrok hrin
    clear hr htx
    obtain ⟨rn, re, j2, D2⟩ := r
    simp only at HAP hrok hrin
    have HR := hidep (And.intro hrok hrin)
    clear h61 e7 e9 e11 e13 e38 e39 e40 hrg hg hE hcs hbX hF hrok hrin hqE
    go_upto_region 12 with (first
      | (go_at_call 27; refine (HTX.out _).mono ?_; rintro e w5 ⟨rfl, hb5⟩)
      | (go_at_call 26; refine (HAP.out _ hb5).mono ?_; rintro e w6 ⟨rfl, hj6, hd6, hT6⟩)
      | fail)
    have hF6 := (HF.out.below hb5).step hj6 hd6 hT6 (.inr hEd) hnE
    have HF6 := hidep hF6
    clear hF6 hj6 hd6 hT6 hb5 HAP HF c0 c1 c2 c3 c4 c5
    rcases HR.out.2 with ⟨hre, hjj, hDD⟩ | ⟨hre, ⟨sg, hsg⟩, htt⟩
    · have b1 : (re == 0) = false := by simp [hre]
      have b2 : (re != 0) = true := by simp [hre]
      have hF7 := HF6.out
      rw [hjj, hDD] at hF7
      have HFI := hidep (show FiI n L.length w dhi lo (.pointer (some ⟨jb, 0, none⟩)) (.pointer (some ⟨q, 0, none⟩)) tv (.int .i64 ((i + 1 : Nat) : Int)) w6 from
        ⟨i + 1, j, D, segs, _, by omega, rfl, HS.out.1, by have := HS.out.2.1; omega, HS.out.2.2.1.mono (by omega), HS.out.2.2.2.1, HS.out.2.2.2.2, hF7.jn, hF7.dk, hF7.rt, hF7.tb, hF7.bB, hF7.bel⟩)
      clear hF7 hre hjj hDD HF6
      go_wp2
      refine ⟨LoopI.mk rfl ⟨rfl, rfl, rfl, rfl, rfl, HFI.out⟩, ?_⟩
      show L.length - _ < L.length - _
      simp [natI]; omega
    · have b1 : (re == 0) = true := by simp [hre]
      have b2 : (re != 0) = false := by simp [hre]
      obtain ⟨c0, c1, c2, c3, c4, c5⟩ := step_cells HF6.out.box
      obtain ⟨ta, tc, rfl, htl, htc⟩ := (Rd.of_own HF6.out.rt).form
      have hjt := HS.out.2.2.1.tl
      have HSG := hidep (And.intro hsg htt)
      clear hre hsg htt
      go_wp2_with (first
        | (go_at_call 27; refine (HTX.out _).mono ?_; rintro e w7 ⟨rfl, hb7⟩; have hF7 := (HF6.out.below hb7).below ((Below.refl _ _).alloc (Nat.le_refl _) (.cells #[.string tx] 9)); have hlit := Rd.fresh w7 #[.string tx] 9 1 1 rfl (by decide))
        | (at_builtin; refine wpList_append_rd _ rfl (.tmp 53) (.tmp 56) rfl slStrs dhi _ _ _ rfl hF7.rt _ _ _ _ rfl hlit (by intro u hu; simp at hu; subst hu; rfl) (by unfold maxLen; omega) (by omega) hF7.lw.2 ?_; intro v9 w9 ho9 hg9 hd9 hnl9; have hF9 := hF7.push_t ho9 hg9 hd9)
        | fail)
      refine ⟨LoopI.mk rfl ⟨rfl, rfl, rfl, rfl, rfl, ⟨i + 1, j2, D2, _, _, by omega, by show Value.int _ _ = _; go_num, HSG.out.1, by rw [List.length_append]; have := HS.out.2.1; simp; omega, HR.out.1.1, HR.out.1.2, ?_, hF9.jn, hF9.dk, ?_, hF9.tb, hF9.bB, hF9.bel⟩⟩, ?_⟩
      · rw [HSG.out.2]
        intro s hs
        rcases List.mem_append.1 hs with hs | hs
        · exact HS.out.2.2.2.2 s hs
        · rw [List.mem_singleton.1 hs]; exact htxs
      · rw [HSG.out.2]
        exact hF9.rt
      · show L.length - _ < L.length - _
        simp [natI]; omega
  · have hiki : ¬ (i : Int) < (k : Int) := by omega
    have HE := hidep (And.intro hsi (And.intro hsl2 (And.intro hjo (And.intro hDl (And.intro hsz (And.intro hd (And.intro hrt hbw)))))))
    clear hsi hsl2 hjo hDl hsz hj hd hrt htb hB hbw
    go_wp2
    go_ret3
    exact ⟨q, _, rfl, ⟨j, D, segs, dhi, HE.out.1, by have := HE.out.2.1; omega, HE.out.2.2.1.mono (by omega), HE.out.2.2.2.1, HE.out.2.2.2.2.1, HE.out.2.2.2.2.2.1, HE.out.2.2.2.2.2.2.1, HE.out.2.2.2.2.2.2.2⟩⟩
end Go.Proofs.YtipbkdlekanlmaaGreatDoor
/- Journal: a step, and a byte, as a law's argument, opened. -/
namespace Go.Proofs.YtipbkdlekanlmaaGreatDoor
open Go.ChangeShapes Go.WideShapes Go.ChangeAt Go.RowKit Go.Lab Go.Disk Go.Jn
/-- A step as a law's argument. -/
def StepV (w : World) (v : Value) (o : StepZ) : Prop := ∃ u, v = .agg (stepC o u).toArray ∧ IntsAt w u o.picks ∧ StepOk o
section
variable {H : Type} {enc : TypeId × Value → H} {W : World} {sp : Nat → Bool} {held : Bool}
set_option maxRecDepth 100000 in
theorem open_u8_arg {W : World} {base : Nat} {v : Value} {d : DataW H} {p : List MemPlace} (hok : Value.okWide Tryz.prog W .any base 5 v) (h : DataW.Trod enc Tryz.prog W 0 (fun _ => true) held 5 v d p) : ∃ n : Int, v = .int .u8 n ∧ 0 ≤ n ∧ n < 256 := by
  obtain ⟨n, rfl⟩ := okWide_int Tryz.underlying5 hok
  obtain ⟨fuel, hf⟩ := h
  obtain ⟨m, e, _, hw⟩ := DataW.trod_int Tryz.underlying5 hf
  simp [Value.cells] at e
  subst e
  exact ⟨n, rfl, u8_rng hw⟩
set_option maxRecDepth 100000 in
theorem open_step_arg {W : World} {base : Nat} {v : Value} {d : DataW H} {p : List MemPlace} (hok : Value.okWide Tryz.prog W .any base 56 v) (h : DataW.Trod enc Tryz.prog W 0 (fun _ => true) held 56 v d p) : ∃ o : StepZ, StepV W v o := by
  obtain ⟨cs, rfl, hsz⟩ := okWide_struct Tryz.underlying56 hok
  obtain ⟨fuel, hf⟩ := h
  have ce : Tryz.prog.cellsOf 56 = 6 := by kernel_rfl
  have c0 : Tryz.prog.cellsOf 3 = 1 := cellsInt
  have c3 : Tryz.prog.cellsOf 5 = 1 := by kernel_rfl
  have c4 : Tryz.prog.cellsOf 51 = 1 := by kernel_rfl
  rw [ce] at hsz
  obtain ⟨xs, k, hk, hxy, _, hxl, hf⟩ := DataW.trod_struct Tryz.underlying56 hf
  match xs, hxl, cs, hsz with
  | [y0, y1, y2, y3, y4, y5], _, ⟨[v0, v1, v2, v3, v4, v5]⟩, _ =>
    have g0 := hf 0 _ rfl
    have g1 := hf 1 _ rfl
    have g2 := hf 2 _ rfl
    have g3 := hf 3 _ rfl
    have g4 := hf 4 _ rfl
    have g5 := hf 5 _ rfl
    simp [c0, c3, c4, Value.cells] at g0 g1 g2 g3 g4 g5
    obtain ⟨n0, e0, _, w0⟩ := DataW.trod_int Tryz.underlying3 g0
    obtain ⟨n1, e1, _, w1⟩ := DataW.trod_int Tryz.underlying3 g1
    obtain ⟨n2, e2, _, w2⟩ := DataW.trod_int Tryz.underlying3 g2
    obtain ⟨n3, e3, _, w3⟩ := DataW.trod_int Tryz.underlying3 g3
    obtain ⟨n4, e4, _, w4⟩ := DataW.trod_int Tryz.underlying5 g4
    obtain ⟨l5, i5⟩ := ints_of_trod g5
    simp at e0 e1 e2 e3 e4
    subst e0; subst e1; subst e2; subst e3; subst e4
    exact ⟨⟨n0, n1, n2, n3, n4, l5⟩, v5, rfl, i5, i64_rng w0, i64_rng w1, i64_rng w2, i64_rng w3, u8_rng w4⟩
end
end Go.Proofs.YtipbkdlekanlmaaGreatDoor
