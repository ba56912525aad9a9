/- Contracts of package merge: slices.DeleteFunc over edits; the edits of one list that are not in another (without). -/
import Derived.Test.YthdafajhohdkoaaMgF
namespace Go.Proofs.Ythdafajhohdkoaa
open Go.RowKit Go.Lab Go.Shelf
theorem RowAt.setCells_front {w : World} {g : Nat} {t : TypeId} {cs : List Value} (h : RowAt w g t cs) {o : Nat} (ho : cs.length ≤ o) : ∀ (vs : List Value) (q : Nat) , o ≤ q → RowAt (w.setCells g q vs) g t cs
  | [], _, _ => h
  | v :: r, q, hq => by
    rw [World.setCells]
    refine RowAt.setCells_front ?_ ho r (q + 1) (by omega)
    obtain ⟨cur, h1, hc⟩ := h
    refine ⟨cur.setIfInBounds q v, heap_setCell_same w g q cur t v h1, fun j u hu => ?_⟩
    have hj := (List.getElem?_eq_some_iff.1 hu).1
    rw [Array.getElem?_setIfInBounds, if_neg (by omega)]
    exact hc j u hu
theorem below_setCells {B : Nat} {a : World} {b : Nat} (hB : B ≤ b) : ∀ (vs : List Value) (o : Nat) (w : World), Below B a w → Below B a (w.setCells b o vs)
  | [], _, _, h => h
  | v :: r, o, w, h => by
    rw [World.setCells]
    exact below_setCells hB r (o + 1) _ (h.setCell (p := ⟨b, o, none⟩) hB v)
theorem rd_rowAt {w : World} {g : Nat} {e : TypeId} {k n c : Nat} {cs : List Value} (h : RowAt w g e cs) (hl : cs.length = n * k) (hn : n ≤ c) (hc : c ≤ maxLen) : Rd w (· = e) k (.slice (some ⟨g, 0, none⟩) n c) n cs := by
  obtain ⟨cur, h1, hcc⟩ := h
  refine ⟨hl, _, _, rfl, hn, hc, (fun e => by cases e), fun ad e _ => ?_⟩
  injection e with e
  subst e
  refine ⟨rfl, cur, _, _, rfl, h1, fun j u hu => ?_⟩
  rw [Nat.zero_add]
  exact hcc j u hu
set_option maxRecDepth 100000 in
set_option maxHeartbeats 4000000 in
theorem deleteFuncE_any (w0 : World) (f : FuncId) (B : Nat) (p : Edit → Bool) (ev : List EV) (ef : ∀ args w, (callFunc f args).run Try.prog w = .ok (.enter f args) w) (hs : ∀ x ∈ ev, SymsAt w0 x.2 x.1.ins) (hT : Tests w0 f B p ev)
    (v : Value) (w : World) (hb : Below w0.heap.size w0 w) (ho : w.ownsRow w0.heap.size 36 3 v ev.length (evC ev)) :
    Calls Try.prog 60 #[v, .func (.func f) #[] #[.pointer (some ⟨B, 0, none⟩)]] w fun e w' => ∃ u, e = .returned u ∧ EvAt w' u (ev.filter fun x => !p x.1) ∧ Below w0.heap.size w0 w' := by
  have HI := hidep (indexFuncE_any w0 f B p ev ef hs hT v w hb (Rd.of_own ho))
  by_cases hall : ∀ x ∈ ev, p x.1 = false
  · have hf : ev.filter (fun x => !p x.1) = ev := List.filter_eq_self.2 (fun x hx => by simp [hall x hx])
    rw [hf]
    have HE : Hid (∀ W, Below w.heap.size w W → EvAt W v ev) := hidep (fun W hW => ⟨(Rd.of_own ho).below hW, fun x hx => (hs x hx).below (hb.trans (hW.mono hb.size))⟩)
    have HI := hidep (HI.out.mono (R' := fun e w' => e = .returned (.int .i64 (-1)) ∧ Below w.heap.size w w') (by
      rintro e w1 ⟨⟨k, rfl, ⟨rfl, _⟩ | ⟨j, hj, _, hp, _⟩⟩, hb1⟩
      · exact ⟨rfl, hb1⟩
      · rw [hall _ (List.getElem_mem hj)] at hp; cases hp))
    obtain ⟨a, c, rfl, _, _⟩ := (Rd.of_own ho).form
    clear hf hall hT hs ho
    go_enter Try.func60, Try.ntmps60
    go_wp2_with (go_at_call 77; refine HI.out.mono ?_; rintro e w1 ⟨rfl, hb1⟩)
    go_ret
    exact ⟨_, rfl, HE.out _ hb1, hb.trans (hb1.mono hb.size)⟩
  · have hne : 0 < ev.length := by
      rcases Nat.eq_zero_or_pos ev.length with h | h
      · exfalso; apply hall; rw [List.eq_nil_of_length_eq_zero h]; simp
      · exact h
    have HI := hidep (HI.out.mono (R' := fun e w' => (∃ j : Nat, e = .returned (.int .i64 (j : Nat)) ∧ j < ev.length ∧ Hid (FiltSt (fun x => !p x) ev j (j + 1) ev)) ∧ Below w.heap.size w w') (by
      rintro e w1 ⟨⟨k, rfl, ⟨rfl, h⟩ | ⟨j, hj, rfl, hp, hpre⟩⟩, hb1⟩
      · exact absurd h hall
      · exact ⟨⟨j, rfl, hj, hidep (FiltSt.start hj (fun x hx => by simp [hpre x hx]) (by simp [hp]))⟩, hb1⟩))
    obtain ⟨g, c, rfl, hg, hnc, hcm, hrow⟩ := RowAt.of_own ho hne
    unfold maxLen at hcm
    clear ho hall
    go_enter Try.func60, Try.ntmps60
    go_upto_block 0 with (go_at_call 77; refine HI.out.mono ?_; rintro e w1 ⟨⟨j0, rfl, hj0, hst⟩, hb1⟩)
    have hrow1 := hrow.of_block (hb1.block g hrow.lt)
    have hbw1 := hb.trans (hb1.mono hb.size)
    clear hrow hb1
    have hz : ((j0 : Int) == -1) = false := by
      rw [beq_eq_false_iff_ne]
      omega
    go_wp2
    (try simp only [hz])
    clear hz
    go_loopw [5, 6] (fun ti tj wr => ∃ (i j : Nat) (L : List EV), ti = .int .i64 i ∧ tj = .int .i64 j ∧ i < ev.length ∧ i ≤ j ∧ j ≤ ev.length ∧ Hid (FiltSt (fun x => !p x) ev i j L) ∧ i + 1 ≤ j ∧ RowAt wr g 36 (evC L) ∧ Below w0.heap.size w0 wr) (fun _ tj _ => ev.length - (intOf tj).toNat)
    case atStart => exact ⟨j0, j0 + 1, ev, rfl, by go_num, hj0, by omega, by omega, hst, by omega, hrow1, hbw1⟩
    case round =>
      obtain ⟨i, j, L, rfl, rfl, hi, hij, hj, HF, hij1, hrow, hbw⟩ := hrel
      clear hrow1 hbw1 hst
      have HL : Hid (L.length = ev.length) := hidep HF.out.len
      by_cases hlt : j < ev.length
      · have hLj : L[j]? = some ev[j] := HF.out.get hlt
        have hm := List.getElem_mem hlt
        have hsy := (hs _ hm).below hbw
        have HT := hidep (fun W hW => hT W ev[j] hm hW)
        have HK : Hid (∀ x, ev[j] = x → (p x.1 = true → FiltSt (fun x => !p x) ev i (j + 1) L) ∧ (p x.1 = false → FiltSt (fun x => !p x) ev (i + 1) (j + 1) (L.set i x))) := hidep (by
          rintro x rfl
          exact ⟨fun h => HF.out.skip hlt (by simp [h]), fun h => HF.out.keep hlt (by simp [h])⟩)
        have HK' := hidep (HK.out _ rfl)
        obtain ⟨c0, c1, c2⟩ := evC_get L j (by rw [HL.out]; exact hlt)
        have hLj' : L[j]'(by rw [HL.out]; exact hlt) = ev[j] := by
          have := List.getElem?_eq_getElem (l := L) (i := j) (by rw [HL.out]; exact hlt)
          rw [this] at hLj
          injection hLj
        rw [hLj'] at c0 c1 c2
        clear hLj hLj' HK hm HF
        generalize ev[j] = x at *
        obtain ⟨⟨ps, d, ins⟩, u⟩ := x
        unfold editV at HT
        simp only at c0 c1 c2 hsy HT HK'
        obtain ⟨au, cu, rfl, _, _⟩ := hsy.form
        clear hsy
        have hc0 := hrow.cell c0
        have hc1 := hrow.cell c1
        have hc2 := hrow.cell c2
        clear c0 c1 c2
        have hgl := hrow.lt
        have hba : Below w0.heap.size w0 (wr.alloc (.cells #[.int .i64 ps, .int .i64 d, .slice au ins.length cu] 36)) := hbw.alloc hbw.size _
        have HBa := hidep hba
        clear hba
        cases hp : p ⟨ps, d, ins⟩
        · simp only [hp] at HT HK'
          clear hp
          go_upto_region 9 with (go_at_fn f; refine (HT.out _ HBa.out).mono ?_; rintro e w1 ⟨rfl, hb1⟩)
          have hq1 := box3_cell ((hb1.block _ (by simp)).trans (heap_alloc_new wr (.cells #[.int .i64 ps, .int .i64 d, .slice au ins.length cu] 36)))
          obtain ⟨hq0, hq1, hq2⟩ := hq1
          have hrow2 := (hrow.of_block (Below.heap_alloc wr (.cells #[.int .i64 ps, .int .i64 d, .slice au ins.length cu] 36) _ hgl)).of_block (hb1.block g (by simp; omega))
          have hbw2 := HBa.out.trans (hb1.mono HBa.out.size)
          obtain ⟨d0, d1, d2⟩ := evC_get L i (by rw [HL.out]; exact hi)
          have hd0 := hrow2.cell d0
          have hd1 := hrow2.cell d1
          have hd2 := hrow2.cell d2
          have hf0 := hrow2.free (i * 3)
          have hf1 := hrow2.free (i * 3 + 1)
          have hf2 := hrow2.free (i * 3 + 2)
          have hlen3 := evC_len L
          have HR : Hid (RowAt (((w1.setCell ⟨g, i * 3, none⟩ (.int .i64 ps)).setCell ⟨g, i * 3 + 1, none⟩ (.int .i64 d)).setCell ⟨g, i * 3 + 2, none⟩ (.slice au ins.length cu)) g 36 (evC (L.set i (⟨ps, d, ins⟩, .slice au ins.length cu))) ∧ Below w0.heap.size w0 (((w1.setCell ⟨g, i * 3, none⟩ (.int .i64 ps)).setCell ⟨g, i * 3 + 1, none⟩ (.int .i64 d)).setCell ⟨g, i * 3 + 2, none⟩ (.slice au ins.length cu))) := hidep ⟨by
              have := HL.out
              rw [← evC_set L i (⟨ps, d, ins⟩, .slice au ins.length cu) (by omega)]
              exact ((hrow2.setCell (by omega) _).setCell (by simp; omega) _).setCell (by simp; omega) _, ((hbw2.setCell (p := ⟨g, i * 3, none⟩) hg _).setCell (p := ⟨g, i * 3 + 1, none⟩) hg _).setCell (p := ⟨g, i * 3 + 2, none⟩) hg _⟩
          clear d0 d1 d2 hlen3 hc0 hc1 hc2 hb1 hrow hrow2 hbw2
          go_wp2
          go_roundw
          case rel => exact ⟨i + 1, j + 1, _, by go_num, by go_num, by omega, by omega, by omega, hidep (HK'.out.2 trivial), by omega, HR.out.1, HR.out.2⟩
          case measure => simp [intOf]; omega
        · simp only [hp] at HT HK'
          clear hp
          go_wp2_with (go_at_fn f; refine (HT.out _ HBa.out).mono ?_; rintro e w1 ⟨rfl, hb1⟩)
          go_roundw
          case rel => exact ⟨i, j + 1, L, rfl, by go_num, by omega, by omega, by omega, hidep (HK'.out.1 trivial), by omega, (hrow.of_block (Below.heap_alloc wr _ _ hgl)).of_block (hb1.block g (by simp; omega)), HBa.out.trans (hb1.mono HBa.out.size)⟩
          case measure => simp [intOf]; omega
      · have hjl : j = ev.length := by omega
        have HD : Hid (L.take i = ev.filter (fun x => !p x.1)) := hidep (by have := HF.out; rw [hjl] at this; exact this.done)
        clear hjl
        have hlen3 := evC_len L
        have hLl := HL.out
        have hcl : ∀ ty, (Builtin.clear_ #[25] ty #[.slice (some ⟨g, i * 3, none⟩) (ev.length - i) (c - i)]).run Try.prog wr = .ok (.tuple #[]) (wr.setCells g (i * 3) (Builtin.zeroCells #[.int .i64 0, .int .i64 0, .slice none 0 0] (ev.length - i)).toList) := fun ty =>
          run_clear_edits wr ty g (i * 3) (ev.length - i) (c - i) (by omega) (fun q hq => by rw [hrow.cell (List.getElem?_eq_getElem (by omega : i * 3 + q < (evC L).length))]; rfl) (fun q _ => hrow.free _)
        have hrow3 : RowAt wr g 36 (evC (L.take i)) := by
          obtain ⟨cur, h1, h2⟩ := hrow
          refine ⟨cur, h1, fun q u hu => h2 q u ?_⟩
          rw [← evC_take, List.getElem?_take] at hu
          split at hu
          · exact hu
          · cases hu
        have hlt3 : (evC (L.take i)).length = i * 3 := by rw [evC_len, List.length_take]; congr 1; omega
        have HR : Hid (RowAt (wr.setCells g (i * 3) (Builtin.zeroCells #[.int .i64 0, .int .i64 0, .slice none 0 0] (ev.length - i)).toList) g 36 (evC (L.take i)) ∧ Below w0.heap.size w0 (wr.setCells g (i * 3) (Builtin.zeroCells #[.int .i64 0, .int .i64 0, .slice none 0 0] (ev.length - i)).toList)) :=
          hidep ⟨RowAt.setCells_front hrow3 (by omega) _ _ (Nat.le_refl _), below_setCells hg _ _ _ hbw⟩
        have HE : Hid (∀ W, RowAt W g 36 (evC (L.take i)) → Below w0.heap.size w0 W → EvAt W (.slice (some ⟨g, 0, none⟩) i c) (ev.filter fun x => !p x.1)) := hidep (fun W hW hB => by
          have hrd := rd_rowAt (k := 3) (n := i) (c := c) hW hlt3 (by omega) (by unfold maxLen; omega)
          have hli : (ev.filter fun x => !p x.1).length = i := by rw [← HD.out, List.length_take]; omega
          refine ⟨by rw [hli, ← HD.out]; exact hrd, fun x hx => (hs x (List.mem_filter.1 hx).1).below hB⟩)
        clear hlen3 hLl hrow3 hlt3 hrow HF
        go_wp2
        go_ret
        exact ⟨_, rfl, HE.out _ HR.out.1 HR.out.2, HR.out.2⟩
end Go.Proofs.Ythdafajhohdkoaa
