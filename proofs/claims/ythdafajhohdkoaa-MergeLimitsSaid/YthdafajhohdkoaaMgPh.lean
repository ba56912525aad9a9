/- Contract of the reference of package merge: Bent returns edits. -/
import Derived.Test.YthdafajhohdkoaaMgU
namespace Go.Proofs.Ythdafajhohdkoaa
open Go.RowKit Go.Lab
theorem evC_set0 : ∀ (l : List EV) (i : Nat) (p : Int) (h : i < l.length), (evC l).set (i * 3) (.int .i64 p) = evC (l.set i (⟨p, l[i].1.del, l[i].1.ins⟩, l[i].2))
  | [], _, _, h => by simp at h
  | x :: l, 0, p, _ => by simp [evC_cons]
  | x :: l, i + 1, p, h => by
    have := evC_set0 l i p (by simpa using h)
    have e : (i + 1) * 3 = i * 3 + 1 + 1 + 1 := by omega
    simp [evC_cons, e, this]
theorem evC_set1 : ∀ (l : List EV) (i : Nat) (p : Int) (h : i < l.length), (evC l).set (i * 3 + 1) (.int .i64 p) = evC (l.set i (⟨l[i].1.pos, p, l[i].1.ins⟩, l[i].2))
  | [], _, _, h => by simp at h
  | x :: l, 0, p, _ => by simp [evC_cons]
  | x :: l, i + 1, p, h => by
    have := evC_set1 l i p (by simpa using h)
    have e : (i + 1) * 3 = i * 3 + 1 + 1 + 1 := by omega
    simp [evC_cons, e, this]
theorem evC_set2 : ∀ (l : List EV) (i : Nat) (u : Value) (L : List Sym) (h : i < l.length), (evC l).set (i * 3 + 2) u = evC (l.set i (⟨l[i].1.pos, l[i].1.del, L⟩, u))
  | [], _, _, _, h => by simp at h
  | x :: l, 0, u, L, _ => by simp [evC_cons]
  | x :: l, i + 1, u, L, h => by
    have := evC_set2 l i u L (by simpa using h)
    have e : (i + 1) * 3 = i * 3 + 1 + 1 + 1 := by omega
    simp [evC_cons, e, this]
/-- A row of edits at the head of a block, each text somewhere. -/
structure Row34 (W : World) (g c : Nat) (lst : List EV) : Prop where
  row : RowAt W g 36 (evC lst)
  ins : ∀ x ∈ lst, SymsAt W x.2 x.1.ins
  cap : lst.length ≤ c
  max : c ≤ maxLen
theorem Row34.edits {W : World} {g c : Nat} {lst : List EV} (h : Row34 W g c lst) : EditsAt W (.slice (some ⟨g, 0, none⟩) lst.length c) (lst.map (·.1)) :=
  EvAt.edits ⟨rd_rowAt h.row (evC_len lst) h.cap h.max, h.ins⟩
theorem mem_set {α : Type} {l : List α} {i : Nat} {x y : α} (h : y ∈ l.set i x) : y ∈ l ∨ y = x := List.mem_or_eq_of_mem_set h
theorem keepsS_set {W : World} {g : Nat} {cs : List Value} (h : RowAt W g 36 cs) (o : Nat) (v : Value) : Keeps (fun t => t = 34) W (W.setCell ⟨g, o, none⟩ v) := by
  obtain ⟨cur, hc, _⟩ := h
  exact Keeps.setCell (a := ⟨g, o, none⟩) hc (fun _ hs e => by rw [hs] at e; exact absurd e (by decide)) v
theorem Row34.set0 {W : World} {g c : Nat} {lst : List EV} (h : Row34 W g c lst) {i : Nat} (hi : i < lst.length) (p : Int) : Row34 (W.setCell ⟨g, i * 3, none⟩ (.int .i64 p)) g c (lst.set i (⟨p, lst[i].1.del, lst[i].1.ins⟩, lst[i].2)) := by
  have hk := keepsS_set h.row (i * 3) (.int .i64 p)
  refine ⟨by rw [← evC_set0 lst i p hi]; exact h.row.setCell (by rw [evC_len]; omega) _, fun x hx => ?_, by simpa using h.cap, h.max⟩
  rcases mem_set hx with hx | rfl
  · exact (h.ins x hx).keeps hk rfl
  · exact (h.ins _ (List.getElem_mem hi)).keeps hk rfl
theorem Row34.set1 {W : World} {g c : Nat} {lst : List EV} (h : Row34 W g c lst) {i : Nat} (hi : i < lst.length) (p : Int) : Row34 (W.setCell ⟨g, i * 3 + 1, none⟩ (.int .i64 p)) g c (lst.set i (⟨lst[i].1.pos, p, lst[i].1.ins⟩, lst[i].2)) := by
  have hk := keepsS_set h.row (i * 3 + 1) (.int .i64 p)
  refine ⟨by rw [← evC_set1 lst i p hi]; exact h.row.setCell (by rw [evC_len]; omega) _, fun x hx => ?_, by simpa using h.cap, h.max⟩
  rcases mem_set hx with hx | rfl
  · exact (h.ins x hx).keeps hk rfl
  · exact (h.ins _ (List.getElem_mem hi)).keeps hk rfl
theorem Row34.set2 {W : World} {g c : Nat} {lst : List EV} (h : Row34 W g c lst) {i : Nat} (hi : i < lst.length) (u : Value) (L : List Sym) (hu : SymsAt W u L) : Row34 (W.setCell ⟨g, i * 3 + 2, none⟩ u) g c (lst.set i (⟨lst[i].1.pos, lst[i].1.del, L⟩, u)) := by
  have hk := keepsS_set h.row (i * 3 + 2) u
  refine ⟨by rw [← evC_set2 lst i u L hi]; exact h.row.setCell (by rw [evC_len]; omega) _, fun x hx => ?_, by simpa using h.cap, h.max⟩
  rcases mem_set hx with hx | rfl
  · exact (h.ins x hx).keeps hk rfl
  · exact hu.keeps hk rfl
theorem Row34.below {W W' : World} {g c : Nat} {lst : List EV} (h : Row34 W g c lst) (hb : Below W.heap.size W W') : Row34 W' g c lst :=
  ⟨h.row.of_block (hb.block g h.row.lt), fun x hx => (h.ins x hx).below hb, h.cap, h.max⟩
theorem Row34.at {W : World} {g c : Nat} {lst : List EV} (h : Row34 W g c lst) {i : Nat} (hi : i < lst.length) : W.cell? ⟨g, i * 3, none⟩ = some (.int .i64 lst[i].1.pos) ∧ W.cell? ⟨g, i * 3 + 1, none⟩ = some (.int .i64 lst[i].1.del) ∧ W.cell? ⟨g, i * 3 + 2, none⟩ = some lst[i].2 := by
  have := evC_get lst i hi
  exact ⟨h.row.cell this.1, h.row.cell this.2.1, h.row.cell this.2.2⟩
theorem madeSyms (n : Nat) : (madeCells (Value.agg #[.int .i64 0, .int .u8 0]).cells (n * 2)).toList = symsC (List.replicate n ⟨0, 0⟩) := by
  have hz : (Value.agg #[.int .i64 0, .int .u8 0]).cells = #[.int .i64 0, .int .u8 0] := rfl
  rw [hz]
  unfold madeCells
  rw [Array.toList_map, Array.toList_range]
  induction n with
  | zero => rfl
  | succ n ih =>
    rw [show (n + 1) * 2 = n * 2 + 1 + 1 by omega, List.range_succ, List.range_succ, List.map_append, List.map_append, ih, List.replicate_succ', symsC_append]
    have e0 : n * 2 % 2 = 0 := by omega
    have e1 : (n * 2 + 1) % 2 = 1 := by omega
    simp [e0, e1, symsC, symC]
theorem set_edits {W : World} {g c n : Nat} {lst : List EV} (h : Row34 W g c lst) (hn : lst.length = n) : EditsAt W (.slice (some ⟨g, 0, none⟩) n c) (lst.map (·.1)) := by
  subst hn
  exact h.edits
theorem natAbs_tdiv4 (n : Int) : (n.tdiv 4).natAbs = n.natAbs / 4 := Int.natAbs_tdiv n 4
theorem setCell_size (W : World) (a : Addr) (v : Value) : (W.setCell a v).heap.size = W.heap.size := by simp [World.setCell]
theorem Row34.put2 {W : World} {g c : Nat} {lst : List EV} (h : Row34 W g c lst) {i : Nat} (hi : i < lst.length) (cs : Array Value) (L : List Sym) (hcs : cs.toList = symsC L) (hm : L.length ≤ maxLen) :
    Row34 ((W.setCell ⟨g, i * 3 + 2, none⟩ (.slice (some ⟨W.heap.size, 0, none⟩) L.length L.length)).alloc (.cells cs 34)) g c (lst.set i (⟨lst[i].1.pos, lst[i].1.del, L⟩, .slice (some ⟨W.heap.size, 0, none⟩) L.length L.length)) := by
  have hk := keepsS_set h.row (i * 3 + 2) (.slice (some ⟨W.heap.size, 0, none⟩) L.length L.length)
  have hr : RowAt (W.setCell ⟨g, i * 3 + 2, none⟩ (.slice (some ⟨W.heap.size, 0, none⟩) L.length L.length)) g 36 (evC (lst.set i (⟨lst[i].1.pos, lst[i].1.del, L⟩, .slice (some ⟨W.heap.size, 0, none⟩) L.length L.length))) := by
    rw [← evC_set2 lst i _ L hi]
    exact h.row.setCell (by rw [evC_len]; omega) _
  have hb := (Below.refl _ (W.setCell ⟨g, i * 3 + 2, none⟩ (.slice (some ⟨W.heap.size, 0, none⟩) L.length L.length))).alloc (Nat.le_refl _) (.cells cs 34)
  refine ⟨hr.of_block (hb.block g hr.lt), fun x hx => ?_, by simpa using h.cap, h.max⟩
  rcases mem_set hx with hx | rfl
  · exact ((h.ins x hx).keeps hk rfl).below hb
  · have hf := Rd.fresh (W.setCell ⟨g, i * 3 + 2, none⟩ (.slice (some ⟨W.heap.size, 0, none⟩) L.length L.length)) cs 34 2 L.length (by rw [← symsC_len, ← hcs]; simp) hm
    rw [setCell_size, hcs] at hf
    exact hf
theorem symsC_set1 : ∀ (l : List Sym) (i : Nat) (c : Int) (h : i < l.length), (symsC l).set (i * 2 + 1) (.int .u8 c) = symsC (l.set i ⟨l[i].lang, c⟩)
  | [], _, _, h => by simp at h
  | x :: l, 0, c, _ => by simp [symsC, symC]
  | x :: l, i + 1, c, h => by
    have := symsC_set1 l i c (by simpa using h)
    have e : (i + 1) * 2 = i * 2 + 1 + 1 := by omega
    simp only [symsC] at this
    simp [symsC, symC, e, this]
theorem keepsS_new {W W' : World} {b o : Nat} (h : Keeps (fun t => t = 34) W W') (hb : W.heap.size ≤ b) (v : Value) : Keeps (fun t => t = 34) W (W'.setCell ⟨b, o, none⟩ v) := by
  refine ⟨by rw [setCell_size]; exact h.1, fun k cur t fz ht hk => ?_⟩
  have hl := lt_of_block hk
  rw [Below.heap_setCell _ _ _ _ (show k ≠ b by omega)]
  exact h.2 k cur t fz ht hk
def BentR (w : World) (l : List Edit) (e : Ending) (w' : World) : Prop := ∃ u es, e = .returned u ∧ EditsAt w' u es ∧ es.length ≤ l.length + 33 ∧ Below w.heap.size w w'
set_option maxRecDepth 100000 in
set_option maxHeartbeats 4000000 in
theorem bent34_any (v : Value) (l : List Edit) (which how by_ : Int) (w : World) (h : EditsAt w v l) (hl : l.length ≤ 40) (i1 : -9223372036854775808 ≤ which) (i2 : which ≤ 9223372036854775807) (j1 : -9223372036854775808 ≤ how) (j2 : how ≤ 9223372036854775807) (k1 : -9223372036854775808 ≤ by_) (k2 : by_ ≤ 9223372036854775807) :
    Calls Try.prog 11 #[v, .int .i64 which, .int .i64 how, .int .i64 by_] w (BentR w l) := by
  obtain ⟨av, rfl, hav⟩ := h.ev
  rw [List.length_map] at hl
  have HL : Hid (∀ es : List Edit, es.length ≤ av.length + 33 → es.length ≤ (av.map (·.1)).length + 33) := hidep (fun es h => by simpa using h)
  have hone := evC_one w av hav.2
  have hrd := hav.1
  obtain ⟨aa, ca, rfl, hca, hma⟩ := hav.form
  unfold maxLen at hma
  have HAV := hidep hav
  clear h hav
  go_enter Try.func11, Try.ntmps11
  go_upto_region 3 with (first
    | (at_builtin; refine wpList_append_rd _ rfl (.tmp 13) (.tmp 14) rfl slEdits w.heap.size (.slice none 0 0) 0 [] rfl (World.ownsRow_nil _ _ _ _) _ _ _ _ rfl hrd hone (by unfold maxLen; omega) (by omega) (Nat.le_refl _) ?_; intro v2 w2 hown hgr hat hnl; clear hat hnl; simp only [Nat.zero_add, List.nil_append] at hown)
    | fail)
  have hb2 : Below w.heap.size w w2 := (Below.refl _ _).grown hgr (Nat.le_refl _) (fun g hg => by simp [Value.ownBlock] at hg)
  obtain ⟨a2, c2, rfl, hc2, hm2⟩ := (Rd.of_own hown).form
  unfold maxLen at hm2
  by_cases hn : av.length = 0
  · rw [hn] at hown ⊢
    have HB2 := hidep hb2
    clear hb2 hgr hrd hown hone
    go_wp2_with (first
      | (go_at_call 14; refine (around_any _ _ _ (by omega) (by omega)).mono ?_; rintro e w' ⟨rfl, rfl⟩; have hr := aroundZ_rng by_ 9 (by omega); generalize aroundZ by_ 9 = q at *)
      | fail)
    go_ret
    exact ⟨_, [⟨q - 2, 0, []⟩], rfl, editsAt_1 _ _ _ _ _ (SymsAt.nil _), HL.out _ (by simp), HB2.out.alloc HB2.out.size _⟩
  · have hn0 : 0 < av.length := by omega
    obtain ⟨g, c, hsl, hg, hgc, hgm, hrow⟩ := RowAt.of_own hown hn0
    injection hsl with hsa _ hsc
    subst hsa hsc
    have HRO : Hid (Row34 w2 g c2 av) := hidep ⟨hrow, fun x hx => (HAV.out.2 x hx).below hb2, hgc, hgm⟩
    have HOW := hidep hown
    have HB2 := hidep hb2
    obtain ⟨kk, hkk⟩ : ∃ kk : Nat, aroundZ which av.length = (kk : Int) := ⟨(aroundZ which av.length).toNat, by have := (aroundZ_rng which av.length (by omega)).1; omega⟩
    have hkl : kk < av.length := by have := (aroundZ_rng which av.length (by omega)).2; omega
    have hkl2 : (kk : Int) < (av.length : Int) := by omega
    have HKK := hidep hkk
    have hr7 := aroundZ_rng how 7 (by omega)
    obtain ⟨r, hr⟩ : ∃ r, aroundZ how 7 = r := ⟨_, rfl⟩
    rw [hr] at hr7
    have HRR := hidep hr
    obtain ⟨q0, q1, q2⟩ := HRO.out.at hkl
    have f0 := hrow.free (kk * 3)
    have f1 := hrow.free (kk * 3 + 1)
    have f2 := hrow.free (kk * 3 + 2)
    have hgl := hrow.lt
    have hq0 : ∀ o, (w2.alloc o).cell? ⟨g, kk * 3, none⟩ = some (.int .i64 av[kk].1.pos) := fun o => ((HRO.out.below ((Below.refl _ _).alloc (Nat.le_refl _) o)).at hkl).1
    have hq1 : ∀ o, (w2.alloc o).cell? ⟨g, kk * 3 + 1, none⟩ = some (.int .i64 av[kk].1.del) := fun o => ((HRO.out.below ((Below.refl _ _).alloc (Nat.le_refl _) o)).at hkl).2.1
    have hq2 : ∀ o, (w2.alloc o).cell? ⟨g, kk * 3 + 2, none⟩ = some av[kk].2 := fun o => ((HRO.out.below ((Below.refl _ _).alloc (Nat.le_refl _) o)).at hkl).2.2
    have hf0 : ∀ o, (w2.alloc o).frozen? ⟨g, kk * 3, none⟩ = false := fun o => (hrow.of_block (((Below.refl _ _).alloc (Nat.le_refl _) o).block g hgl)).free _
    have hf1 : ∀ o, (w2.alloc o).frozen? ⟨g, kk * 3 + 1, none⟩ = false := fun o => (hrow.of_block (((Below.refl _ _).alloc (Nat.le_refl _) o).block g hgl)).free _
    have hf2 : ∀ o, (w2.alloc o).frozen? ⟨g, kk * 3 + 2, none⟩ = false := fun o => (hrow.of_block (((Below.refl _ _).alloc (Nat.le_refl _) o).block g hgl)).free _
    have HRA := hidep (fun o => HRO.out.below ((Below.refl _ w2).alloc (Nat.le_refl _) o))
    have HBA := hidep (fun o => hb2.alloc hb2.size o)
    clear hn hkk hr hrd hone hgr hown hb2 hrow
    generalize hxk : av[kk] = xk at *
    have HXK := hidep hxk
    clear hxk
    obtain ⟨⟨xp, xd, xi⟩, xu⟩ := xk
    simp only at q0 q1 q2 hq0 hq1 hq2
    go_upto_region 12 with (first
      | (go_at_call 14; refine (around_any _ _ _ (by omega) (by omega)).mono ?_; rintro e w' ⟨rfl, rfl⟩; first | rw [HKK.out] | rw [HRR.out])
      | fail)
    clear HKK HRR j1 j2 i1 i2
    rcases (show r = 0 ∨ r = 1 ∨ r = 2 ∨ r = 3 ∨ r = 4 ∨ r = 5 ∨ r = 6 by omega) with rfl | rfl | rfl | rfl | rfl | rfl | rfl
    · have hr5 := aroundZ_rng by_ 5 (by omega)
      obtain ⟨q, hq⟩ : ∃ q, aroundZ by_ 30 = q := ⟨_, rfl⟩
      obtain ⟨z, hz⟩ : ∃ z, aroundZ by_ 5 = z := ⟨_, rfl⟩
      have HQ := hidep hq
      have HZ := hidep hz
      rw [hz] at hr5
      clear hq hz
      rcases (show z = 0 ∨ z = 1 ∨ z = 2 ∨ z = 3 ∨ z = 4 by omega) with rfl | rfl | rfl | rfl | rfl
      all_goals
        go_wp2_with (first
          | (go_at_call 14; refine (around_any _ _ _ (by omega) (by omega)).mono ?_; rintro e w' ⟨rfl, rfl⟩; first | rw [HQ.out] | rw [HZ.out])
          | fail)
        go_ret
        exact ⟨_, _, rfl, set_edits ((HRO.out.set0 hkl _).below ((Below.refl _ _).alloc (Nat.le_refl _) _)) (by simp), HL.out _ (by simp), (HB2.out.setCell (p := ⟨g, kk * 3, none⟩) hg _).alloc (by have := HB2.out.size; simpa [World.setCell] using this) _⟩
    · have hr5 := aroundZ_rng by_ 5 (by omega)
      obtain ⟨q, hq⟩ : ∃ q, aroundZ by_ 30 = q := ⟨_, rfl⟩
      obtain ⟨z, hz⟩ : ∃ z, aroundZ by_ 5 = z := ⟨_, rfl⟩
      have HQ := hidep hq
      have HZ := hidep hz
      rw [hz] at hr5
      clear hq hz
      rcases (show z = 0 ∨ z = 1 ∨ z = 2 ∨ z = 3 ∨ z = 4 by omega) with rfl | rfl | rfl | rfl | rfl
      all_goals
        go_wp2_with (first
          | (go_at_call 14; refine (around_any _ _ _ (by omega) (by omega)).mono ?_; rintro e w' ⟨rfl, rfl⟩; first | rw [HQ.out] | rw [HZ.out])
          | fail)
        go_ret
        exact ⟨_, _, rfl, set_edits ((HRO.out.set1 hkl _).below ((Below.refl _ _).alloc (Nat.le_refl _) _)) (by simp), HL.out _ (by simp), (HB2.out.setCell (p := ⟨g, kk * 3 + 1, none⟩) hg _).alloc (by have := HB2.out.size; simpa [World.setCell] using this) _⟩
    · have hb4 : -9223372036854775808 ≤ by_.tdiv 4 ∧ by_.tdiv 4 ≤ 9223372036854775807 := by
        have h1 := natAbs_tdiv4 by_
        generalize by_.tdiv 4 = bq at h1 ⊢
        omega
      obtain ⟨bq, hbq⟩ : ∃ bq, by_.tdiv 4 = bq := ⟨_, rfl⟩
      rw [hbq] at hb4
      have hr4 := aroundZ_rng by_ 4 (by omega)
      have hr99 := aroundZ_rng bq 99 (by omega)
      obtain ⟨q, hq⟩ : ∃ q, aroundZ by_ 4 = q := ⟨_, rfl⟩
      obtain ⟨z, hz⟩ : ∃ z, aroundZ bq 99 = z := ⟨_, rfl⟩
      have HQ := hidep hq
      have HZ := hidep hz
      rw [hq] at hr4
      rw [hz] at hr99
      clear hq hz
      go_wp2_with (first
        | (go_at_call 14; refine (around_any _ _ _ (by omega) (by omega)).mono ?_; rintro e w' ⟨rfl, rfl⟩; first | rw [HQ.out] | rw [HZ.out])
        | fail)
      go_ret
      have hput := HRO.out.put2 hkl #[.int .i64 (q - 1), .int .u8 (30 + z)] [⟨q - 1, 30 + z⟩] rfl (show 1 ≤ maxLen by decide)
      exact ⟨_, _, rfl, set_edits hput (by simp), HL.out _ (by simp), (HB2.out.setCell (p := ⟨g, kk * 3 + 2, none⟩) hg _).alloc (by rw [setCell_size]; exact HB2.out.size) _⟩
    · have hr3 := aroundZ_rng by_ 3 (by omega)
      obtain ⟨n, hn⟩ : ∃ n : Nat, 63 + aroundZ by_ 3 = (n : Int) := ⟨(63 + aroundZ by_ 3).toNat, by omega⟩
      have hn70 : n ≤ 70 := by omega
      have HN := hidep hn
      obtain ⟨q, hq⟩ : ∃ q, aroundZ by_ 3 = q := ⟨_, rfl⟩
      have HQ := hidep hq
      rw [hq] at hr3 hn
      clear hq HN
      have hwr : IntKind.i64.wrap (63 + q) = (n : Int) := by rw [hn]; exact IntWalk.i64_in _ (by omega)
      obtain ⟨ht, hinfo, hzs, hsz⟩ := slSyms
      obtain ⟨ti, hti, hz, hsize, hby⟩ := info_parts hinfo
      go_upto_region 20 with (first
        | (go_at_call 14; refine (around_any _ _ _ (by omega) (by omega)).mono ?_; rintro e w' ⟨rfl, rfl⟩; rw [HQ.out])
        | (at_make; refine wpList_make_full _ rfl _ _ 23 rfl w2.heap.size 34 ti _ 2 ht hti hz hsize .i64 .i64 _ _ n rfl rfl (by omega) (by omega) (by rw [hby]; omega) (by unfold maxLen; omega) (Nat.le_refl _) ?_; intro w3 hown3 hgr3; have hb3 : Below w2.heap.size w2 w3 := (Below.refl _ _).grown hgr3 (Nat.le_refl _) (fun g hg => by cases hg); have hR3 := HRO.out.below hb3; have h3c := (hR3.at hkl).2.2; have h3f := hR3.row.free (kk * 3 + 2))
        | fail)
      obtain ⟨g3, c3, hsl3, hg3, hn3, hm3, hr3w⟩ := RowAt.of_own hown3 (by omega)
      injection hsl3 with hsl3 _ hc3
      injection hsl3 with hsl3
      injection hsl3 with hg3e _ _
      subst hg3e hc3
      have hneg : g ≠ w2.heap.size := by omega
      have hSN : Hid (∃ L : List Sym, L.length = n ∧ RowAt (w3.setCell ⟨g, kk * 3 + 2, none⟩ (.slice (some ⟨w2.heap.size, 0, none⟩) n n)) w2.heap.size 34 (symsC L)) := hidep ⟨List.replicate n ⟨0, 0⟩, by simp, by rw [← madeSyms]; exact RowAt.other hr3w (by simpa using hneg.symm) _⟩
      have HRN : Hid (RowAt (w3.setCell ⟨g, kk * 3 + 2, none⟩ (.slice (some ⟨w2.heap.size, 0, none⟩) n n)) g 36 (evC (av.set kk (⟨xp, xd, []⟩, .slice (some ⟨w2.heap.size, 0, none⟩) n n)))) := hidep (by
        have := evC_set2 av kk (.slice (some ⟨w2.heap.size, 0, none⟩) n n) [] hkl
        rw [HXK.out] at this
        rw [← this]
        exact hR3.row.setCell (by rw [evC_len]; omega) _)
      have HKN := hidep ((Keeps.below (fun t => t = 34) hb3).trans (keepsS_set hR3.row (kk * 3 + 2) (.slice (some ⟨w2.heap.size, 0, none⟩) n n)))
      have HBN := hidep ((HB2.out.trans (hb3.mono HB2.out.size)).setCell (p := ⟨g, kk * 3 + 2, none⟩) hg (.slice (some ⟨w2.heap.size, 0, none⟩) n n))
      have hgt := evC_get (av.set kk (⟨xp, xd, []⟩, .slice (some ⟨w2.heap.size, 0, none⟩) n n)) kk (by simpa using hkl)
      have HGT : Hid ((evC (av.set kk (⟨xp, xd, []⟩, .slice (some ⟨w2.heap.size, 0, none⟩) n n)))[kk * 3 + 2]? = some (.slice (some ⟨w2.heap.size, 0, none⟩) n n)) := hidep (by have := hgt.2.2; simpa using this)
      clear hgt hr3w hown3 hgr3 hwr
      have hgi := HB2.out.size
      generalize hbS : w2.heap.size = gi at *
      have HGI := hidep hgi
      have HGE := hidep (show w2.heap.size ≤ gi by omega)
      clear hbS hgi
      go_wp2
      go_loopw [11] (fun i wr => ∃ (j : Nat) (L : List Sym), j ≤ n ∧ i = .int .i64 j ∧ L.length = n ∧ RowAt wr g 36 (evC (av.set kk (⟨xp, xd, []⟩, .slice (some ⟨gi, 0, none⟩) n n))) ∧ RowAt wr gi 34 (symsC L) ∧ Keeps (fun t => t = 34) w2 wr ∧ Below w.heap.size w wr) (fun i _ => n - (intOf i).toNat)
      case atStart =>
        obtain ⟨L, hL1, hL2⟩ := hSN.out
        exact ⟨0, L, by omega, rfl, hL1, HRN.out, hL2, HKN.out, HBN.out⟩
      case round =>
        obtain ⟨j, L, hj, rfl, hL, hrg, hri, hks, hbw⟩ := hrel
        have HL2 := hidep hL
        have hcu := hrg.cell HGT.out
        by_cases hlt : j < n
        · have hjl : j < L.length := by omega
          have hsc := symsC_get L j hjl
          have hc1 := hri.cell hsc.2
          have hf1 := hri.free (j * 2 + 1)
          have hset := hri.setCell (o := j * 2 + 1) (by rw [symsC_len]; omega) (.int .u8 122)
          rw [symsC_set1 L j 122 hjl] at hset
          have HST := hidep hset
          have HRO2 := hidep (hrg.other (a := ⟨gi, j * 2 + 1, none⟩) hneg (.int .u8 122))
          have HKS := hidep (keepsS_new (o := j * 2 + 1) hks HGE.out (.int .u8 122))
          have hIj : (j : Int) < (n : Int) := by omega
          clear hsc hset hL
          go_wp2
          go_roundw
          case rel => exact ⟨j + 1, _, by omega, by go_num, by rw [List.length_set]; exact HL2.out, HRO2.out, HST.out, HKS.out, hbw.setCell (p := ⟨gi, j * 2 + 1, none⟩) HGI.out _⟩
          case measure => simp [intOf]; omega
        · have hjn : j = n := by omega
          subst hjn
          clear hL
          have HE : Hid (EditsAt wr (.slice (some ⟨g, 0, none⟩) av.length c2) ((av.set kk (⟨xp, xd, L⟩, .slice (some ⟨gi, 0, none⟩) j j)).map (·.1))) := hidep (by
            have e1 := evC_set2 av kk (.slice (some ⟨gi, 0, none⟩) j j) [] hkl
            have e2 := evC_set2 av kk (.slice (some ⟨gi, 0, none⟩) j j) L hkl
            rw [HXK.out] at e1 e2
            have hrow : RowAt wr g 36 (evC (av.set kk (⟨xp, xd, L⟩, .slice (some ⟨gi, 0, none⟩) j j))) := by rw [← e2, e1]; exact hrg
            refine set_edits (g := g) ⟨hrow, fun x hx => ?_, by simpa using HRO.out.cap, HRO.out.max⟩ (by simp)
            rcases mem_set hx with hx | rfl
            · exact (HRO.out.ins x hx).keeps hks rfl
            · have := rd_rowAt (k := 2) (n := j) (c := j) hri (by rw [symsC_len, HL2.out]) (Nat.le_refl _) (by unfold maxLen; omega)
              unfold SymsAt
              rw [HL2.out]
              exact this)
          go_wp2
          go_ret
          exact ⟨_, _, rfl, HE.out, HL.out _ (by simp), hbw⟩
    · have hO2 := HOW.out.alloc (.cells #[.int .i64 xp, .int .i64 xd, xu] 36)
      have hfr := Rd.fresh w2 #[.int .i64 xp, .int .i64 xd, xu] 36 3 1 rfl (by decide)
      have hxm := HRO.out.ins _ (List.getElem_mem hkl)
      rw [HXK.out] at hxm
      simp only at hxm
      obtain ⟨axu, cxu, hxu, _, _⟩ := hxm.form
      subst hxu
      have HXM := hidep hxm
      have hav : av.length ≤ 40 := hl
      clear hxm
      go_wp2_with (first
        | (at_builtin; refine wpList_append_rd _ rfl (.tmp 115) (.tmp 120) rfl slEdits w.heap.size (.slice (some ⟨g, 0, none⟩) av.length c2) _ _ rfl hO2 _ _ _ _ rfl hfr (by intro u hu; simp at hu; rcases hu with rfl | rfl | rfl <;> rfl) (by unfold maxLen; omega) (by omega) (by have := HB2.out.size; simp; omega) ?_; intro v3 w3 hown3 hgr3 hat hnl; clear hat hnl hfr)
        | fail)
      have hxa : Below w2.heap.size w2 (w2.alloc (.cells #[.int .i64 xp, .int .i64 xd, .slice axu xi.length cxu] 36)) := (Below.refl _ _).alloc (Nat.le_refl _) _
      have hov : OwnEv w2 w.heap.size (.slice (some ⟨g, 0, none⟩) av.length c2) av := ⟨HOW.out, HRO.out.ins⟩
      have hfin := OwnEv.snoc (x := (⟨xp, xd, xi⟩, .slice axu xi.length cxu)) (hov.below hxa) (HXM.out.below hxa) hown3 hgr3
      go_ret
      exact ⟨_, _, rfl, hfin.at.edits, HL.out _ (by simp <;> omega), (HB2.out.trans (hxa.mono HB2.out.size)).grown hgr3 (by have := HB2.out.size; simp; omega) (fun k hk => (HOW.out.lt k hk).1)⟩
    · go_wp2
      go_ret
      have s1 := HRO.out.set0 hkl xp
      have s2 := s1.set1 (i := kk) (by simpa using hkl) 0
      have s3 := s2.set2 (i := kk) (by simpa using hkl) (.slice none 0 0) [] (SymsAt.nil _)
      exact ⟨_, _, rfl, set_edits s3 (by simp), HL.out _ (by simp), ((HB2.out.setCell (p := ⟨g, kk * 3, none⟩) hg _).setCell (p := ⟨g, kk * 3 + 1, none⟩) hg _).setCell (p := ⟨g, kk * 3 + 2, none⟩) hg _⟩
    · have hr3 := aroundZ_rng by_ 3 (by omega)
      obtain ⟨q, hq⟩ : ∃ q, aroundZ by_ 3 = q := ⟨_, rfl⟩
      have HQ := hidep hq
      rw [hq] at hr3
      clear hq
      obtain ⟨w0, hw0⟩ : ∃ w0 : World, w0 = w2 := ⟨_, rfl⟩
      subst hw0
      go_wp2
      go_loopw [9, 12] (fun o i wr => ∃ (k : Nat) (lst : List EV), k ≤ 33 ∧ i = .int .i64 k ∧ OwnEv wr w0.heap.size o lst ∧ lst.length ≤ k ∧ Below w0.heap.size w0 wr) (fun _ i _ => 33 - (intOf i).toNat)
      case atStart => exact ⟨0, [], by omega, rfl, ⟨World.ownsRow_nil _ _ _ _, by simp⟩, Nat.le_refl _, Below.refl _ _⟩
      case round =>
        obtain ⟨k, lst, hk, rfl, hown, hlk, hbw⟩ := hrel
        obtain ⟨wo, hwo⟩ : ∃ wo : World, wo = wr := ⟨_, rfl⟩
        subst hwo
        have hlk33 : lst.length ≤ 33 := by omega
        have HLK := hidep hlk
        clear hlk
        obtain ⟨ao, co, rfl, _, _⟩ := hown.at.form
        by_cases hc : (k : Int) < 31 + q
        · have hfr := Rd.fresh wo #[.int .i64 (2 * (k : Int)), .int .i64 1, .slice none 0 0] 36 3 1 rfl (by decide)
          have hO2 := hown.1.alloc (.cells #[.int .i64 (2 * (k : Int)), .int .i64 1, .slice none 0 0] 36)
          go_wp2_with (first
            | (go_at_call 14; refine (around_any _ _ _ (by omega) (by omega)).mono ?_; rintro e w' ⟨rfl, rfl⟩; rw [HQ.out])
            | (at_builtin; refine wpList_append_rd _ rfl (.tmp 37) (.tmp 41) rfl slEdits w0.heap.size (.slice ao lst.length co) _ _ rfl hO2 _ _ _ _ rfl hfr (by intro u hu; simp at hu; rcases hu with rfl | rfl | rfl <;> rfl) (by unfold maxLen; omega) (by omega) (by have := hbw.size; simp; omega) ?_; intro v3 w3 hown3 hgr3 hat hnl; clear hat hnl hfr)
            | fail)
          have hxa : Below wo.heap.size wo (wo.alloc (.cells #[.int .i64 (2 * (k : Int)), .int .i64 1, .slice none 0 0] 36)) := (Below.refl _ _).alloc (Nat.le_refl _) _
          have hfin := OwnEv.snoc (x := (⟨2 * (k : Int), 1, []⟩, .slice none 0 0)) (hown.below hxa) (SymsAt.nil _) hown3 hgr3
          go_roundw
          case rel => exact ⟨k + 1, _, by omega, by go_num, hfin, by have := HLK.out; simp; omega, (hbw.trans (hxa.mono hbw.size)).grown hgr3 (by have := hbw.size; simp; omega) (fun g hg => (hown.1.lt g hg).1)⟩
          case measure => simp [intOf]; omega
        · go_wp2_with (first
            | (go_at_call 14; refine (around_any _ _ _ (by omega) (by omega)).mono ?_; rintro e w' ⟨rfl, rfl⟩; rw [HQ.out])
            | fail)
          go_ret
          exact ⟨_, _, rfl, hown.at.edits, HL.out _ (by simp <;> omega), HB2.out.trans (hbw.mono HB2.out.size)⟩
end Go.Proofs.Ythdafajhohdkoaa
