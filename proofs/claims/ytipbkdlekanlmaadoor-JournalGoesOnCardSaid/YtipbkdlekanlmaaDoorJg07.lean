/- Journal: the walk of the law JournalGoesOn. -/
import Derived.Test.YtipbkdlekanlmaaDoorJs22
import Derived.Test.YtipbkdlekanlmaaDoorJg02
import Derived.Test.YtipbkdlekanlmaaDoorJg06
namespace Go.Proofs.YtipbkdlekanlmaaDoor
open Go.RowKit Go.Lab Go.Disk Go.Jn
attribute [local go_sem] Oper.semAt_some
set_option maxRecDepth 100000
theorem range_map139 (f : Nat → Value) : (List.range 139).map f = [f 0, f 1, f 2, f 3, f 4, f 5, f 6, f 7, f 8, f 9, f 10, f 11, f 12, f 13, f 14, f 15, f 16, f 17, f 18, f 19, f 20, f 21, f 22, f 23, f 24, f 25, f 26, f 27, f 28, f 29, f 30, f 31, f 32, f 33, f 34, f 35, f 36, f 37, f 38, f 39, f 40, f 41, f 42, f 43, f 44, f 45, f 46, f 47, f 48, f 49, f 50, f 51, f 52, f 53, f 54, f 55, f 56, f 57, f 58, f 59, f 60, f 61, f 62, f 63, f 64, f 65, f 66, f 67, f 68, f 69, f 70, f 71, f 72, f 73, f 74, f 75, f 76, f 77, f 78, f 79, f 80, f 81, f 82, f 83, f 84, f 85, f 86, f 87, f 88, f 89, f 90, f 91, f 92, f 93, f 94, f 95, f 96, f 97, f 98, f 99, f 100, f 101, f 102, f 103, f 104, f 105, f 106, f 107, f 108, f 109, f 110, f 111, f 112, f 113, f 114, f 115, f 116, f 117, f 118, f 119, f 120, f 121, f 122, f 123, f 124, f 125, f 126, f 127, f 128, f 129, f 130, f 131, f 132, f 133, f 134, f 135, f 136, f 137, f 138] := rfl
theorem frame139 (t : Array Value) (ds : List Deferred) (h : t.size = 139) : ({ tmps := t, defers := ds } : Act) = { tmps := #[slot t 0, slot t 1, slot t 2, slot t 3, slot t 4, slot t 5, slot t 6, slot t 7, slot t 8, slot t 9, slot t 10, slot t 11, slot t 12, slot t 13, slot t 14, slot t 15, slot t 16, slot t 17, slot t 18, slot t 19, slot t 20, slot t 21, slot t 22, slot t 23, slot t 24, slot t 25, slot t 26, slot t 27, slot t 28, slot t 29, slot t 30, slot t 31, slot t 32, slot t 33, slot t 34, slot t 35, slot t 36, slot t 37, slot t 38, slot t 39, slot t 40, slot t 41, slot t 42, slot t 43, slot t 44, slot t 45, slot t 46, slot t 47, slot t 48, slot t 49, slot t 50, slot t 51, slot t 52, slot t 53, slot t 54, slot t 55, slot t 56, slot t 57, slot t 58, slot t 59, slot t 60, slot t 61, slot t 62, slot t 63, slot t 64, slot t 65, slot t 66, slot t 67, slot t 68, slot t 69, slot t 70, slot t 71, slot t 72, slot t 73, slot t 74, slot t 75, slot t 76, slot t 77, slot t 78, slot t 79, slot t 80, slot t 81, slot t 82, slot t 83, slot t 84, slot t 85, slot t 86, slot t 87, slot t 88, slot t 89, slot t 90, slot t 91, slot t 92, slot t 93, slot t 94, slot t 95, slot t 96, slot t 97, slot t 98, slot t 99, slot t 100, slot t 101, slot t 102, slot t 103, slot t 104, slot t 105, slot t 106, slot t 107, slot t 108, slot t 109, slot t 110, slot t 111, slot t 112, slot t 113, slot t 114, slot t 115, slot t 116, slot t 117, slot t 118, slot t 119, slot t 120, slot t 121, slot t 122, slot t 123, slot t 124, slot t 125, slot t 126, slot t 127, slot t 128, slot t 129, slot t 130, slot t 131, slot t 132, slot t 133, slot t 134, slot t 135, slot t 136, slot t 137, slot t 138], defers := ds } := by
  have e : t = ((List.range 139).map (slot t)).toArray := by
    apply Array.ext
    · simp [h]
    · intro i h1 h2
      simp [slot, Array.getD, h1]
  rw [range_map139] at e
  exact congrArg (fun x => ({ tmps := x, defers := ds } : Act)) e
theorem JOn.cap {B : Nat → Prop} {w : World} {lo : Nat} {p dv : Value} {j : JZ} (h : JOn B w lo p dv j) : JOn (fun x => B x ∧ x < w.heap.size) w lo p dv j := by
  obtain ⟨b, nv, bv, tv, hp, hj, h1, h2, h3, h4⟩ := h
  exact ⟨b, nv, bv, tv, hp, hj, ⟨h1, lt_of_block hj.box⟩, fun x hx => ⟨h2 x hx, (hj.rn.lt x hx).2⟩, fun x hx => ⟨h3 x hx, (hj.rb.lt x hx).2⟩, fun x hx => ⟨h4 x hx, (hj.rt.lt x hx).2⟩⟩
/-- What stands while a record's number and text are noted. -/
structure GoS (B : Nat → Prop) (l0 lo dlo dhi E : Nat) (cs : Array Value) (pj dv nv tv : Value) (j : JZ) (D : Dk) (ns : List Int) (tx : List ByteArray) (w0 X : World) : Prop where
  jn : JOn B X lo pj dv j
  dk : DiskAt X dlo dhi dv D
  rn : X.ownsRow dhi 3 1 nv ns.length (intsC ns)
  rt : X.ownsRow dhi 9 1 tv tx.length (strL tx)
  nb : ∀ x, nv.ownBlock = some x → ¬ B x
  tb : ∀ x, tv.ownBlock = some x → ¬ B x
  bB : ∀ x, B x → x < X.heap.size
  box : X.heap[E]? = some (.cells cs 46)
  lw : l0 ≤ dhi ∧ dhi ≤ X.heap.size
  bel : Below l0 w0 X
section
variable {B : Nat → Prop} {l0 lo dlo dhi E : Nat} {cs : Array Value} {pj dv nv tv : Value} {j : JZ} {D : Dk} {ns : List Int} {tx : List ByteArray} {w0 X X' : World}
theorem GoS.below (h : GoS B l0 lo dlo dhi E cs pj dv nv tv j D ns tx w0 X) (hb : Below X.heap.size X X') : GoS B l0 lo dlo dhi E cs pj dv nv tv j D ns tx w0 X' :=
  ⟨h.jn.below hb, h.dk.below hb, own_below h.rn hb, own_below h.rt hb, h.nb, h.tb, fun x hx => Nat.lt_of_lt_of_le (h.bB x hx) hb.size, below_push hb h.box, ⟨h.lw.1, Nat.le_trans h.lw.2 hb.size⟩, h.bel.trans (hb.mono (Nat.le_trans h.lw.1 h.lw.2))⟩
theorem turned_row {W W' : World} {r : Option Nat} (hg : W.grownBy W' r) : Turned (fun x => r = some x) W W' := ⟨hg.os, hg.tape, hg.output, hg.size, fun b hb hn => hg.block b hb (fun e => hn e.symm)⟩
theorem GoS.push_n (h : GoS B l0 lo dlo dhi E cs pj dv nv tv j D ns tx w0 X) {v : Value} {x : Int} (ho : X'.ownsRow dhi 3 1 v (ns.length + 1) (intsC ns ++ [.int .i64 x])) (hg : X.grownBy X' nv.ownBlock) (hd : v.ownBlock = nv.ownBlock ∨ v.ownBlock = some X.heap.size) :
    GoS B l0 lo dlo dhi E cs pj dv v tv j D (ns ++ [x]) tx w0 X' :=
  ⟨h.jn.turned (turned_row hg) (fun y hy e => h.nb y e hy), h.dk.turned (turned_row hg) (fun y _ h2 e => by have := (h.rn.lt y e).1; omega), by rw [List.length_append, intsC_snoc']; exact ho, own_other h.rt h.rn hg (by decide), fun y hy hB => by
    rcases hd with hd | hd
    · exact h.nb y (by rw [← hd]; exact hy) hB
    · rw [hd] at hy
      injection hy with hy
      have := h.bB y hB
      omega, h.tb, fun y hy => Nat.lt_of_lt_of_le (h.bB y hy) hg.size, grown_other h.rn hg h.box (by decide), ⟨h.lw.1, Nat.le_trans h.lw.2 hg.size⟩, below_own h.bel hg (fun r hr => Nat.le_trans h.lw.1 (own_blk h.rn r hr)) (Nat.le_trans h.lw.1 h.lw.2)⟩
theorem GoS.push_t (h : GoS B l0 lo dlo dhi E cs pj dv nv tv j D ns tx w0 X) {v : Value} {x : ByteArray} (ho : X'.ownsRow dhi 9 1 v (tx.length + 1) (strL tx ++ [.string x])) (hg : X.grownBy X' tv.ownBlock) (hd : v.ownBlock = tv.ownBlock ∨ v.ownBlock = some X.heap.size) :
    GoS B l0 lo dlo dhi E cs pj dv nv v j D ns (tx ++ [x]) w0 X' :=
  ⟨h.jn.turned (turned_row hg) (fun y hy e => h.tb y e hy), h.dk.turned (turned_row hg) (fun y _ h2 e => by have := (h.rt.lt y e).1; omega), own_other h.rn h.rt hg (by decide), by rw [List.length_append, strL_snoc]; exact ho, h.nb, fun y hy hB => by
    rcases hd with hd | hd
    · exact h.tb y (by rw [← hd]; exact hy) hB
    · rw [hd] at hy
      injection hy with hy
      have := h.bB y hB
      omega, fun y hy => Nat.lt_of_lt_of_le (h.bB y hy) hg.size, grown_other h.rt hg h.box (by decide), ⟨h.lw.1, Nat.le_trans h.lw.2 hg.size⟩, below_own h.bel hg (fun r hr => Nat.le_trans h.lw.1 (own_blk h.rt r hr)) (Nat.le_trans h.lw.1 h.lw.2)⟩
end
theorem jat_ptr {w : World} {lo : Nat} {p dv : Value} {j : JZ} (h : JAt w lo p dv j) : ∃ b, p = .pointer (some ⟨b, 0, none⟩) := by
  obtain ⟨b, nv, bv, tv, hp, _⟩ := h
  exact ⟨b, hp⟩
theorem wear_len (D : Dk) (i : Int) : (wearD D i).s.length = D.s.length := by
  unfold wearD
  split
  · show (wearS D.s _).length = _
    unfold wearS
    rw [List.length_set]
  · rfl
def GwI (n : Nat) (k : Nat) (w : World) (dlo dhi : Nat) (dv iv : Value) (wr : World) : Prop := ∃ (i : Nat) (D : Dk), i ≤ k ∧ iv = .int .i64 (i : Nat) ∧ DiskAt wr dlo dhi dv D ∧ Fresh D ∧ D.s.length = n ∧ Below w.heap.size w wr
/-- The state of the loop over the records. -/
def GoI (n k : Nat) (w : World) (dlo dhi lo : Nat) (pj dv nv tv lv iv : Value) (wr : World) : Prop := ∃ (i : Nat) (j : JZ) (D : Dk) (segs : List Seg) (B : Nat → Prop) (lst : Int), i ≤ k ∧ iv = .int .i64 (i : Nat) ∧ lv = .int .i64 lst ∧ lst < j.next ∧
  GInv j D segs ∧ JOk j n i ∧ D.s.length = n ∧ JOn B wr lo pj dv j ∧ DiskAt wr dlo dhi dv D ∧ wr.ownsRow dhi 3 1 nv j.nums.length (intsC j.nums) ∧ wr.ownsRow dhi 9 1 tv j.texts.length (strL j.texts) ∧
  (∀ x, nv.ownBlock = some x → ¬ B x) ∧ (∀ x, tv.ownBlock = some x → ¬ B x) ∧ (∀ x, B x → dhi ≤ x ∧ x < wr.heap.size) ∧ Below w.heap.size w wr
/-- Several orders of a statement whose exits are whatever they are: what holds behind it is shown once. -/
theorem wp_joinQ {P : Program} {c : Code} {Q : Exit → Act → World → Prop} {a : Act} {w : World} (M : Act → World → Prop) (h1 : ∀ Q' : Exit → Act → World → Prop, (∀ a w, M a w → Q' .normal a w) → c.wp P Q' a w) (h2 : ∀ a w, M a w → Q .normal a w) : c.wp P Q a w := h1 Q h2
theorem zero_step (w : World) : (zeroValue 46).run Tryd.prog w = .ok (.agg #[.int .i64 0, .int .i64 0, .int .i64 0, .int .i64 0, .int .u8 0, .slice none 0 0]) w := by kernel_rfl
theorem row_step : (∃ d, Tryd.prog.underlying 46 = some d ∧ d.isRow = true) ∧ (Tryd.prog.info? 46).map (·.size) = some 6 := ⟨under_row (by kernel_rfl), by kernel_rfl⟩
theorem jz0_okn (n : Nat) : JOk jz0 n 0 := by
  refine ⟨?_, ?_, ?_, ?_, ?_, ?_, ?_, ?_⟩
  all_goals unfold jz0
  all_goals simp
theorem step_cells {W : World} {b : Nat} {o : StepZ} {u : Value} {t : TypeId} {fz : Nat × Nat} (h : W.heap[b]? = some (.cells (stepC o u).toArray t fz)) : W.cell? ⟨b, 0, none⟩ = some (.int .i64 o.kind) ∧ W.cell? ⟨b, 1, none⟩ = some (.int .i64 o.i) ∧ W.cell? ⟨b, 2, none⟩ = some (.int .i64 o.bit) ∧ W.cell? ⟨b, 3, none⟩ = some (.int .i64 o.size) ∧ W.cell? ⟨b, 4, none⟩ = some (.int .u8 o.fill) ∧ W.cell? ⟨b, 5, none⟩ = some u :=
  ⟨by simp [World.cell?, h, stepC], by simp [World.cell?, h, stepC], by simp [World.cell?, h, stepC], by simp [World.cell?, h, stepC], by simp [World.cell?, h, stepC], by simp [World.cell?, h, stepC]⟩
theorem text_size (s f : Int) : (stepText s f).size ≤ 8100 := by
  unfold stepText
  rw [← nums_len, nums_str (fillB_rng _ _), fillB_len]
  unfold sizeZ
  omega
/-- Behind the note of a record. -/
def GoT (B : Nat → Prop) (l0 lo dlo dhi E : Nat) (cs : Array Value) (n k : Nat) (i lst : Int) (sv pj dv : Value) (j : JZ) (D : Dk) (w0 : World) (a : Act) (W : World) : Prop :=
  a.tmps.size = 139 ∧ a.defers = [] ∧ slot a.tmps 0 = .int .i64 (n : Nat) ∧ slot a.tmps 1 = sv ∧ slot a.tmps 7 = dv ∧ slot a.tmps 11 = pj ∧ slot a.tmps 15 = .int .i64 lst ∧ slot a.tmps 71 = sv ∧ slot a.tmps 72 = .int .i64 (k : Nat) ∧ slot a.tmps 73 = .int .i64 i ∧ GoS B l0 lo dlo dhi E cs pj dv (slot a.tmps 13) (slot a.tmps 14) j D j.nums j.texts w0 W
set_option maxHeartbeats 8000000 in
theorem goes_any (n : Int) (sv uv : Value) (L : List StepZ) (U : List Int) (w : World) (hn : -9223372036854775808 ≤ n ∧ n ≤ 9223372036854775807) (hL : StepsAt w sv L) (hU : BytR w uv U) (hk : w.rangeAt 2 0 (u32C ks0)) :
    Calls Tryd.prog 4 #[.int .i64 n, sv, uv] w fun e w' => e = .returned (.bool true) ∧ Below w.heap.size w w' := by
  have HK := hidep hk
  have HS := hidep (fun Y (hY : Below w.heap.size w Y) => sanity_any Y (HK.out.below hY))
  clear hk
  obtain ⟨sa, sc, rfl, hsl, hsc⟩ := hL.form
  obtain ⟨ua, uc, rfl, hul, huc⟩ := hU.1.form
  have HL := hidep hL
  have HU := hidep hU
  unfold maxLen at hsc huc
  clear hL hU
  obtain ⟨k, hkd⟩ : ∃ k, k = L.length := ⟨_, rfl⟩
  obtain ⟨m, hmd⟩ : ∃ m, m = U.length := ⟨_, rfl⟩
  rw [← hkd] at hsl ⊢
  rw [← hmd] at hul ⊢
  have HKD := hidep (And.intro hkd hmd)
  clear hkd hmd
  by_cases h1 : 200 < n
  · have g1 : n > 200 := h1
    go_enter Tryd.func4, Tryd.ntmps4
    go_wp2_with (first
      | (go_at_call 5; refine (HS.out _ (Below.refl _ _)).mono ?_; rintro e w1 ⟨rfl, hb1⟩)
      | fail)
    go_ret
    exact ⟨rfl, hb1⟩
  have g1 : ¬ n > 200 := h1
  by_cases h2 : 20 < k
  · have g2 : (k : Int) > 20 := by omega
    go_enter Tryd.func4, Tryd.ntmps4
    go_wp2_with (first
      | (go_at_call 5; refine (HS.out _ (Below.refl _ _)).mono ?_; rintro e w1 ⟨rfl, hb1⟩)
      | fail)
    go_ret
    exact ⟨rfl, hb1⟩
  have g2 : ¬ (k : Int) > 20 := by omega
  by_cases h3 : 8 < m
  · have g3 : (m : Int) > 8 := by omega
    go_enter Tryd.func4, Tryd.ntmps4
    go_wp2_with (first
      | (go_at_call 5; refine (HS.out _ (Below.refl _ _)).mono ?_; rintro e w1 ⟨rfl, hb1⟩)
      | fail)
    go_ret
    exact ⟨rfl, hb1⟩
  have g3 : ¬ (m : Int) > 8 := by omega
  by_cases h4 : n < 1
  · have HN := hidep (new_bad n w (.inl h4))
    have g4 : n < 1 := h4
    clear h1 h2 h3 h4
    go_enter Tryd.func4, Tryd.ntmps4
    go_wp2_with (first
      | (go_at_call 13; refine HN.out.mono ?_; rintro e w1 ⟨rfl, rfl⟩)
      | (go_at_call 5; refine (HS.out _ (Below.refl _ _)).mono ?_; rintro e w1 ⟨rfl, hb1⟩)
      | fail)
    go_ret
    exact ⟨rfl, hb1⟩
  obtain ⟨n, rfl⟩ : ∃ N : Nat, n = (N : Int) := ⟨n.toNat, by omega⟩
  have hn1 : 1 ≤ n ∧ n ≤ 200 := by omega
  have hk20 : k ≤ 20 := by omega
  have HN := hidep (new_any n w hn1.1 (by omega))
  clear h1 h2 h3 h4 hn
  go_enter Tryd.func4, Tryd.ntmps4
  go_upto_region 6 with (first
    | (go_at_call 13; refine HN.out.mono ?_; rintro e w1 ⟨dv, rfl, hd1, hb1⟩)
    | fail)
  clear g1 g2 g3
  obtain ⟨q, rfl⟩ := disk_ptr hd1
  obtain ⟨dhi, hdh⟩ : ∃ dhi, dhi = w1.heap.size := ⟨_, rfl⟩
  rw [← hdh] at hd1
  have hlw : w.heap.size ≤ dhi := by rw [hdh]; exact hb1.size
  clear hdh HN
  go_upto_region 7 with (fail)
  refine wp_loop (LoopI 139 (fun tm ds wr => (slot tm 0) = .int .i64 (n : Nat) ∧ (slot tm 1) = .slice sa k sc ∧ (slot tm 7) = .pointer (some ⟨q, 0, none⟩) ∧ (slot tm 47) = .slice ua m uc ∧ (slot tm 48) = .int .i64 (m : Nat) ∧ ds = [] ∧ GwI n m w w.heap.size dhi (.pointer (some ⟨q, 0, none⟩)) (slot tm 49) wr)) (fun a' wr => m - natI (a'.tmps.getD 49 undef)) ?wr1Start ?wr1Round
  case' wr1Start => refine LoopI.mk rfl ?_
  case' wr1Round => (rintro ⟨t, ds⟩ wr ⟨hts, hrel⟩; dsimp only at hts hrel; rw [frame139 t ds hts])
  case wr1Start => exact ⟨rfl, rfl, rfl, rfl, rfl, rfl, 0, newD n, Nat.zero_le _, rfl, hd1, fresh_new n hn1.1 (by omega), by simp [newD], hb1⟩
  clear hd1 hb1
  obtain ⟨e0, e1, e7, e47, e48, hds, i, D, hi, e49, hd, hfr, hDl, hbw⟩ := hrel
  subst hds
  rw [e0, e1, e7, e47, e48, e49]
  clear e0 e1 e7 e47 e48 e49 hts
  by_cases him : i < m
  · have himi : (i : Int) < (m : Int) := by omega
    have hi0 : (0 : Int) ≤ (i : Int) := by omega
    have hiU : i < U.length := by rw [← HKD.out.2]; exact him
    have hur := (HU.out.1.below hbw)
    rw [← HKD.out.2] at hur
    obtain ⟨g, o, rfl, hg, hcell⟩ := hur.at (by omega)
    have hci := hcell i (.int .u8 U[i]) (by simp [byC, hiU])
    have hxr := HU.out.2 U[i] (List.getElem_mem hiU)
    obtain ⟨x, hx⟩ : ∃ x, x = U[i] := ⟨_, rfl⟩
    rw [← hx] at hci hxr
    have htm : x.tmod (n : Int) = x % (n : Int) := Int.tmod_eq_emod_of_nonneg hxr.1
    have hn0 : ¬ (n : Int) = 0 := by omega
    have hnz : ((n : Int) == 0) = false := by simp; omega
    have hmr : 0 ≤ x % (n : Int) ∧ x % (n : Int) < (n : Int) := ⟨Int.emod_nonneg _ hn0, Int.emod_lt_of_pos _ (by omega)⟩
    obtain ⟨y, hy⟩ : ∃ y, y = x % (n : Int) := ⟨_, rfl⟩
    rw [← hy] at htm hmr
    have HW := hidep (wear_any (.pointer (some ⟨q, 0, none⟩)) D y wr w.heap.size dhi hd (by omega))
    have HF := hidep (And.intro hfr (And.intro hDl hbw))
    clear hx hy hfr hDl hbw hd hcell hur
    go_wp2_with (first
      | (go_at_call 14; refine HW.out.mono ?_; rintro e w5 ⟨rfl, hd5, hT5⟩)
      | fail)
    all_goals
      refine ⟨LoopI.mk rfl ⟨rfl, rfl, rfl, rfl, rfl, rfl, i + 1, _, by omega, by show Value.int _ _ = _; go_num, hd5, fresh_wear HF.out.1 y, by rw [wear_len]; exact HF.out.2.1, HF.out.2.2.trans (hT5.below (Nat.le_refl _) HF.out.2.2.size)⟩, ?_⟩
      show m - _ < m - _
      simp [natI]; omega
  · have himi : ¬ (i : Int) < (m : Int) := by omega
    have hop := open_any _ D wr _ _ hd hfr.1.1 (HK.out.below hbw)
    rw [fresh_open hfr] at hop
    have HOP := hidep hop
    have HF := hidep (And.intro hfr (And.intro hDl (And.intro hbw hd)))
    clear hop hfr hDl hbw hd him hi
    go_upto_region 14 with (first
      | (go_at_call 15; refine HOP.out.mono ?_; rintro e w2 ⟨pj, rfl, hj2, hb2⟩; obtain ⟨jb, hpj⟩ := jat_ptr hj2; subst hpj)
      | fail)
    obtain ⟨lo, hlod⟩ : ∃ lo, lo = wr.heap.size := ⟨_, rfl⟩
    have hlo : dhi ≤ lo := by
      obtain ⟨b, g, mb, wb, c, l, P, W, hp, h⟩ := HF.out.2.2.2
      rw [hlod]
      exact h.hi
    rw [← hlod] at hj2
    have hbw2 := HF.out.2.2.1.trans (hb2.mono HF.out.2.2.1.size)
    have HG := hidep (show GoI n k w w.heap.size dhi lo (.pointer (some ⟨jb, 0, none⟩)) (.pointer (some ⟨q, 0, none⟩)) (.slice none 0 0) (.slice none 0 0) (.int .i64 0) (.int .i64 0) w2 from
      ⟨0, jz0, D, [], _, 0, Nat.zero_le _, rfl, rfl, by decide, fresh_inv HF.out.1, jz0_okn n, HF.out.2.1, hj2.on, HF.out.2.2.2.below hb2, ⟨rfl, .inl ⟨rfl, rfl⟩⟩, ⟨rfl, .inl ⟨rfl, rfl⟩⟩, (fun x hx => by cases hx), (fun x hx => by cases hx), (fun x hx => ⟨by omega, hx.2⟩), hbw2⟩)
    clear hj2 hbw2 hb2 HF HOP hlod himi
    go_upto_region 18 with (fail)
    refine wp_loop (LoopI 139 (fun tm ds wr => (slot tm 0) = .int .i64 (n : Nat) ∧ (slot tm 1) = .slice sa k sc ∧ (slot tm 7) = .pointer (some ⟨q, 0, none⟩) ∧ (slot tm 11) = .pointer (some ⟨jb, 0, none⟩) ∧ (slot tm 71) = .slice sa k sc ∧ (slot tm 72) = .int .i64 (k : Nat) ∧ ds = [] ∧ GoI n k w w.heap.size dhi lo (.pointer (some ⟨jb, 0, none⟩)) (.pointer (some ⟨q, 0, none⟩)) (slot tm 13) (slot tm 14) (slot tm 15) (slot tm 73) wr)) (fun a' wr => k - natI (a'.tmps.getD 73 undef)) ?wr2Start ?wr2Round
    case' wr2Start => refine LoopI.mk rfl ?_
    case' wr2Round => (rintro ⟨t, ds⟩ wr ⟨hts, hrel⟩; dsimp only at hts hrel; rw [frame139 t ds hts])
    case wr2Start => exact ⟨rfl, rfl, rfl, rfl, rfl, rfl, rfl, HG.out⟩
    clear HG
    obtain ⟨e0, e1, e7, e11, e71, e72, hds, i, j, D, segs, B, lst, hi, e73, e15, hlst, hgi, hjo, hDl, hj, hd, hrn, hrt, hnb, htb, hB, hbw⟩ := hrel
    subst hds
    obtain ⟨nv, hnv⟩ : ∃ nv, nv = slot t 13 := ⟨_, rfl⟩
    obtain ⟨tv, htv⟩ : ∃ tv, tv = slot t 14 := ⟨_, rfl⟩
    rw [← hnv] at hrn hnb
    rw [← htv] at hrt htb
    rw [e0, e1, e7, e11, e15, e71, e72, e73, ← hnv, ← htv]
    clear e0 e1 e7 e11 e15 e71 e72 e73 hnv htv hts
    have hbs := hbw.size
    by_cases hik : i < k
    · have hiki : (i : Int) < (k : Int) := by omega
      have hi0 : (0 : Int) ≤ (i : Int) := by omega
      have hiL : i < L.length := by rw [← HKD.out.1]; exact hik
      have hsteps := HL.out.below hbw
      rw [show k = L.length from HKD.out.1] at hiki hik hsl ⊢
      obtain ⟨g, o, u, rfl, hg, hrg, hpk, hok⟩ := hsteps.at hiL
      obtain ⟨pa, pc, rfl, _, _⟩ := hpk.1.form
      obtain ⟨st, hst⟩ : ∃ st, st = L[i] := ⟨_, rfl⟩
      rw [← hst] at hrg hok
      obtain ⟨pl, hpl⟩ : ∃ pl, pl = st.picks.length := ⟨_, rfl⟩
      rw [← hpl] at hrg
      obtain ⟨cs, hcs⟩ : ∃ cs, cs = stepC st (.slice pa pl pc) := ⟨_, rfl⟩
      rw [← hcs] at hrg
      have hcs6 : cs.length = 6 := by rw [hcs]; rfl
      have hone : cs.toArray.all (·.oneCell') = true := by rw [hcs]; simp [stepC, Value.oneCell']
      clear hst hpl hpk hsteps
      have HI := hidep (And.intro hgi (And.intro hjo (And.intro hDl (And.intro hj (And.intro hd (And.intro hrn (And.intro hrt (And.intro hnb (And.intro htb (And.intro hB (And.intro hbw hlst)))))))))))
      clear hgi hjo hDl hj hd hrn hrt hnb htb hB hbw hlst
      go_upto_region 19 with (fail)
      refine wp_region_lit ?_
      refine wpList_value rfl (v := .pointer (some ⟨g, o + i * 6, none⟩)) (w' := wr) (by
        have e : ∀ ev : Operand → Value, ev (.tmp 71) = .slice (some ⟨g, o, none⟩) L.length sc → ev (.tmp 73) = .int .i64 (i : Int) → (execOp ev ⟨some 75, .indexAddr 35 (.tmp 71) (.tmp 73), 0, "", #[], none⟩).run Tryd.prog wr = .ok (.value (.pointer (some ⟨g, o + i * 6, none⟩))) wr := fun ev ha hc => by
          go_simp
        exact e _ (by kernel_rfl) (by kernel_rfl)) ?_
      refine wpList_load_mid rfl 46 _ rfl g (o + i * 6) (by kernel_rfl) cs _ hrg row_step.1.choose_spec.1 row_step.1.choose_spec.2 (by rw [hcs6]; exact row_step.2) ?_
      refine wpList_alloc_row zero_step _ rfl rfl ?_
      refine wpList_store_last (t := 46) (c' := cs.toArray) wr (by rw [List.size_toArray, hcs6]; exact row_step.2) (by simp [hcs6]) hone rfl _ _ rfl (by kernel_rfl) (by kernel_rfl) ?_
      refine wpList_nil ?_
      apply_assumption
      refine wp_abs (fun X => X.heap[wr.heap.size]? = some (.cells cs.toArray 46) ∧ Below wr.heap.size wr X) ⟨heap_alloc_new _ _, (Below.refl _ _).alloc (Nat.le_refl _) _⟩ ?_
      rintro X ⟨hqE, hbX⟩
      obtain ⟨E, hE⟩ : ∃ E, E = wr.heap.size := ⟨_, rfl⟩
      rw [← hE] at hqE
      refine wp_cutA 139 (fun tm ds => ds = [] ∧ slot tm 0 = .int .i64 (n : Nat) ∧ slot tm 1 = .slice (some ⟨g, o, none⟩) L.length sc ∧ slot tm 7 = .pointer (some ⟨q, 0, none⟩) ∧ slot tm 11 = .pointer (some ⟨jb, 0, none⟩) ∧ slot tm 13 = nv ∧ slot tm 14 = tv ∧ slot tm 15 = .int .i64 lst ∧ slot tm 17 = .pointer (some ⟨E, 0, none⟩) ∧ slot tm 71 = .slice (some ⟨g, o, none⟩) L.length sc ∧ slot tm 72 = .int .i64 (L.length : Nat) ∧ slot tm 73 = .int .i64 (i : Nat)) (by kernel_rfl) (by exact ⟨by kernel_rfl, by kernel_rfl, by kernel_rfl, by kernel_rfl, by kernel_rfl, by kernel_rfl, by kernel_rfl, by kernel_rfl, by rw [hE]; kernel_rfl, by kernel_rfl, by kernel_rfl, by kernel_rfl⟩) ?_
      rintro tA dA h139 ⟨rfl, e0, e1, e7, e11, e13, e14, e15, e17, e71, e72, e73⟩
      rw [frame139 tA [] h139, e0, e1, e7, e11, e13, e14, e15, e17, e71, e72, e73]
      have HEQ := hidep hE
      clear h139 e0 e1 e7 e11 e13 e14 e15 e17 e71 e72 e73 hrg hg hE
      have HTX := hidep (fun Y => textR_any st.kind st.i st.bit st.size st.fill pa pl pc Y hok.2.2.2.2)
      obtain ⟨tx, htx⟩ : ∃ tx, tx = stepText st.size st.fill := ⟨_, rfl⟩
      have htxs := text_size st.size st.fill
      rw [← htx] at HTX htxs
      rw [hcs] at hqE
      obtain ⟨c0, c1, c2, c3, c4, c5⟩ := step_cells hqE
      have hbs' := hbX.size
      obtain ⟨B2, hB2⟩ : ∃ B2 : Nat → World → World → Prop, True := ⟨fun _ _ _ => True, trivial⟩
      clear hB2 B2
      have HAP := hidep (fun Y (hY : Below X.heap.size X Y) => append_any (.pointer (some ⟨jb, 0, none⟩)) (.pointer (some ⟨q, 0, none⟩)) j D tx Y lo w.heap.size dhi B ((HI.out.2.2.2.1.below hbX).below hY) ((HI.out.2.2.2.2.1.below hbX).below hY) hlo (by omega) ⟨HI.out.2.1.s0, by have := HI.out.2.1.s1; omega⟩ ⟨HI.out.2.1.n0, by have := HI.out.2.1.n1; omega⟩ ⟨by have := HI.out.2.1.nl; omega, by have := HI.out.2.1.tl; omega⟩ (HK.out.below ((HI.out.2.2.2.2.2.2.2.2.2.2.1.trans (hbX.mono hbs)).trans (hY.mono (by omega)))))
      have hrok := append_ok HI.out.2.1 HI.out.2.2.1 tx
      have hrin := app_inv HI.out.1 tx
      obtain ⟨r, hr⟩ : ∃ r, r = appendZ j D tx := ⟨_, rfl⟩
      rw [← hr] at HAP hrok hrin
      clear hr
      obtain ⟨rn, re, j2, D2⟩ := r
      simp only at HAP hrok hrin
      have HR := hidep (And.intro hrok hrin)
      have HTS := hidep htx
      clear hrok hrin htx
      go_upto_region 21 with (first
        | (go_at_call 17; refine (HTX.out _).mono ?_; rintro e w5 ⟨rfl, hb5⟩)
        | (go_at_call 16; refine (HAP.out _ hb5).mono ?_; rintro e w6 ⟨rfl, hj6, hd6, hT6⟩)
        | fail)
      have hq5 := below_push hb5 hqE
      have hrn5 := own_below (own_below HI.out.2.2.2.2.2.1 hbX) hb5
      have hrt5 := own_below (own_below HI.out.2.2.2.2.2.2.1 hbX) hb5
      have hw5 := (HI.out.2.2.2.2.2.2.2.2.2.2.1.trans (hbX.mono hbs)).trans (hb5.mono (by omega))
      have hB := HI.out.2.2.2.2.2.2.2.2.2.1
      have hnb := HI.out.2.2.2.2.2.2.2.1
      have htb := HI.out.2.2.2.2.2.2.2.2.1
      have hsz5 := hb5.size
      have hE5 : E < w5.heap.size := lt_of_block hq5
      have hlwr : dhi ≤ wr.heap.size := by
        obtain ⟨b, g, mb, wb, c, l, P, W, hp, h⟩ := HI.out.2.2.2.2.1
        exact h.hi
      have hGS : GoS (fun x => (B x ∨ w5.heap.size ≤ x) ∧ x < w6.heap.size) w.heap.size lo w.heap.size dhi E (stepC st (.slice pa pl pc)).toArray (.pointer (some ⟨jb, 0, none⟩)) (.pointer (some ⟨q, 0, none⟩)) nv tv j2 D2 j.nums j.texts w w6 := by
        refine ⟨hj6.cap, hd6, ownsRow_turned hrn5 hT6 (fun y hy hx => ?_), ownsRow_turned hrt5 hT6 (fun y hy hx => ?_), fun y hy hx => ?_, fun y hy hx => ?_, fun y hy => hy.2, hT6.cells hq5 (fun hx => ?_), ⟨hlw, by have := hT6.size; omega⟩, hw5.trans (hT6.toB (fun y hy => ?_) hw5.size)⟩
        · rcases hx with hx | hx
          · have := (hrn5.lt y hy).1; omega
          · exact hnb y hy hx
        · rcases hx with hx | hx
          · have := (hrt5.lt y hy).1; omega
          · exact htb y hy hx
        · rcases hx.1 with h3 | h3
          · exact hnb y hy h3
          · have := (hrn5.lt y hy).2; omega
        · rcases hx.1 with h3 | h3
          · exact htb y hy h3
          · have := (hrt5.lt y hy).2; omega
        · rcases hx with hx | hx
          · have := HEQ.out; omega
          · have := (hB E hx).2; have := HEQ.out; omega
        · rcases hy with hy | hy
          · exact hy.1
          · have := (hB y hy).1; omega
      have HGS := hidep hGS
      have hBB : ∀ x, ((B x ∨ w5.heap.size ≤ x) ∧ x < w6.heap.size) → dhi ≤ x ∧ x < w6.heap.size := fun x hx => by
        rcases hx.1 with h3 | h3
        · exact ⟨(hB x h3).1, hx.2⟩
        · exact ⟨by omega, hx.2⟩
      have HBB := hidep hBB
      have hlst := HI.out.2.2.2.2.2.2.2.2.2.2.2
      clear hq5 hrn5 hrt5 hw5 hB hnb htb hGS hBB hj6 hd6 hT6 hqE c0 c1 c2 c3 c4 c5 hb5 hbX HAP HTX
      refine wp_cutA 139 (fun tm ds => ds = [] ∧ slot tm 0 = .int .i64 (n : Nat) ∧ slot tm 1 = .slice (some ⟨g, o, none⟩) L.length sc ∧ slot tm 7 = .pointer (some ⟨q, 0, none⟩) ∧ slot tm 11 = .pointer (some ⟨jb, 0, none⟩) ∧ slot tm 13 = nv ∧ slot tm 14 = tv ∧ slot tm 15 = .int .i64 lst ∧ slot tm 17 = .pointer (some ⟨E, 0, none⟩) ∧ slot tm 18 = .int .i64 rn ∧ slot tm 19 = .int .i64 re ∧ slot tm 71 = .slice (some ⟨g, o, none⟩) L.length sc ∧ slot tm 72 = .int .i64 (L.length : Nat) ∧ slot tm 73 = .int .i64 (i : Nat)) (by kernel_rfl) (by exact ⟨by kernel_rfl, by kernel_rfl, by kernel_rfl, by kernel_rfl, by kernel_rfl, by kernel_rfl, by kernel_rfl, by kernel_rfl, by kernel_rfl, by kernel_rfl, by kernel_rfl, by kernel_rfl, by kernel_rfl, by kernel_rfl⟩) ?_
      rintro tB dB h139 ⟨rfl, e0, e1, e7, e11, e13, e14, e15, e17, e18, e19, e71, e72, e73⟩
      rw [frame139 tB [] h139, e0, e1, e7, e11, e13, e14, e15, e17, e18, e19, e71, e72, e73]
      clear h139 e0 e1 e7 e11 e13 e14 e15 e17 e18 e19 e71 e72 e73
      have hbase : ∀ (lst' : Int), lst' < j.next → j2 = j → D2 = D → GoI n L.length w w.heap.size dhi lo (.pointer (some ⟨jb, 0, none⟩)) (.pointer (some ⟨q, 0, none⟩)) nv tv (.int .i64 lst') (.int .i64 ((i + 1 : Nat) : Int)) w6 := fun lst' h1 h2 h3 => by
        have hG := HGS.out
        rw [h2, h3] at hG
        exact ⟨i + 1, j, D, segs, _, lst', by omega, rfl, rfl, h1, HI.out.1, HI.out.2.1.mono (by omega), HI.out.2.2.1, hG.jn, hG.dk, hG.rn, hG.rt, hG.nb, hG.tb, HBB.out, hG.bel⟩
      have HBS := hidep hbase
      clear hbase
      rcases HR.out.2 with (hr4 | hr24) | ⟨sg, hsg1, hsg2, hgi2, hcase, hnext⟩
      · obtain ⟨h1, h2⟩ := Prod.mk.inj hr4
        obtain ⟨h2, h3⟩ := Prod.mk.inj h2
        obtain ⟨h3, h4⟩ := Prod.mk.inj h3
        have HF := hidep (HBS.out lst hlst h3 h4)
        clear hr4 h1 h3 h4 hlst
        subst h2
        go_wp2
        refine ⟨LoopI.mk rfl ⟨rfl, rfl, rfl, rfl, rfl, rfl, rfl, HF.out⟩, ?_⟩
        show L.length - _ < L.length - _
        simp [natI]; omega
      · obtain ⟨h1, h2⟩ := Prod.mk.inj hr24
        obtain ⟨h2, h3⟩ := Prod.mk.inj h2
        obtain ⟨h3, h4⟩ := Prod.mk.inj h3
        have HF := hidep (HBS.out lst hlst h3 h4)
        clear hr24 h1 h3 h4 hlst
        subst h2
        go_wp2
        refine ⟨LoopI.mk rfl ⟨rfl, rfl, rfl, rfl, rfl, rfl, rfl, HF.out⟩, ?_⟩
        show L.length - _ < L.length - _
        simp [natI]; omega
      · (try simp only at hgi2 hcase hnext)
        rcases hcase with ⟨hw, hrn1, hre, hnm, htm⟩ | ⟨hw, hre, hnm, htm⟩
        · have hnle : ¬ rn ≤ lst := by omega
          obtain ⟨B2, hB2⟩ : ∃ B2 : Nat → Prop, B2 = fun x => (B x ∨ w5.heap.size ≤ x) ∧ x < w6.heap.size := ⟨_, rfl⟩
          have hO := HGS.out
          rw [← hB2] at hO
          have HB2 := hidep (show ∀ x, B2 x → dhi ≤ x ∧ x < w6.heap.size from by rw [hB2]; exact HBB.out)
          have HN2 := hidep (And.intro hgi2 (And.intro hnm (And.intro htm (And.intro hrn1 (And.intro hnext hsg2)))))
          obtain ⟨na, nc, rfl, hnl, hnc⟩ := (Rd.of_own hO.rn).form
          obtain ⟨ta, tc, rfl, htl, htc⟩ := (Rd.of_own hO.rt).form
          have hjn := HI.out.2.1.nl
          have hjt := HI.out.2.1.tl
          have HTX := hidep (fun Y => textR_any st.kind st.i st.bit st.size st.fill pa pl pc Y hok.2.2.2.2)
          rw [← HTS.out] at HTX
          have hjj : j2.nums = j.nums ++ [rn] ∧ j2.texts = j.texts ++ [tx] := ⟨by rw [hnm, hrn1], htm⟩
          have HJJ := hidep hjj
          clear hB2 hgi2 hnm htm hrn1 hnext hsg2 hlst hjj
          subst hre
          go_upto_region 26 with (fail)
          refine wp_joinQ (GoT B2 w.heap.size lo w.heap.size dhi E (stepC st (.slice pa pl pc)).toArray n L.length (i : Int) rn (.slice (some ⟨g, o, none⟩) L.length sc) (.pointer (some ⟨jb, 0, none⟩)) (.pointer (some ⟨q, 0, none⟩)) j2 D2 w) ?note ?_
          case note =>
            intro K' hMK
            have hqE := hO.box
            refine wp_region_noPanic (wp_region_held_drew (S := (fun Y => Y.heap[E]? = some (.cells (stepC st (.slice pa pl pc)).toArray 46))) (by kernel_rfl) ?hS4r26n0 (fun hHeld => ?hR4r26n0))
            case hS4r26n0 => ((try dsimp only); (exact hqE))
            refine wpAnyH_take (i := 0) (v := ?v4r26n0q1) rfl (by kernel_rfl) (by kernel_rfl) (by kernel_rfl) (fun _ _ _ h => h) (Or.inl ⟨by kernel_rfl, ?hy4r26n0q1⟩) (by assumption) ?hr4r26n0q1
            case hy4r26n0q1 => (intro w hSw; (try dsimp only at hSw); (obtain ⟨s0, s1, s2, s3, s4, s5⟩ := step_cells hSw); first | (go_simp; done) | (go_simp; with_reducible rfl))
            refine wpAnyH_take (i := 1) (v := ?v4r26n0q2) rfl (by kernel_rfl) (by kernel_rfl) (by kernel_rfl) (fun _ _ _ h => h) (Or.inl ⟨by kernel_rfl, ?hy4r26n0q2⟩) (by assumption) ?hr4r26n0q2
            case hy4r26n0q2 => (intro w hSw; (try dsimp only at hSw); (obtain ⟨s0, s1, s2, s3, s4, s5⟩ := step_cells hSw); first | (go_simp; done) | (go_simp; with_reducible rfl))
            refine wpAnyH_take (i := 4) (v := ?v4r26n0q3) rfl (by kernel_rfl) (by kernel_rfl) (by kernel_rfl) (fun _ _ _ h => h) (Or.inl ⟨by kernel_rfl, ?hy4r26n0q3⟩) (by assumption) ?hr4r26n0q3
            case hy4r26n0q3 => (intro w hSw; (try dsimp only at hSw); (obtain ⟨s0, s1, s2, s3, s4, s5⟩ := step_cells hSw); first | (go_simp; done) | (go_simp; with_reducible rfl))
            refine wpAnyH_take (i := 5) (v := ?v4r26n0q4) rfl (by kernel_rfl) (by kernel_rfl) (by kernel_rfl) (fun _ _ _ h => h) (Or.inl ⟨by kernel_rfl, ?hy4r26n0q4⟩) (by assumption) ?hr4r26n0q4
            case hy4r26n0q4 => (intro w hSw; (try dsimp only at hSw); (obtain ⟨s0, s1, s2, s3, s4, s5⟩ := step_cells hSw); first | (go_simp; done) | (go_simp; with_reducible rfl))
            refine wpAnyH_take (i := 9) (v := ?v4r26n0q5) rfl (by kernel_rfl) (by kernel_rfl) (by kernel_rfl) (fun _ _ _ h => h) (Or.inl ⟨by kernel_rfl, ?hy4r26n0q5⟩) (by assumption) ?hr4r26n0q5
            case hy4r26n0q5 => (intro w hSw; (try dsimp only at hSw); (obtain ⟨s0, s1, s2, s3, s4, s5⟩ := step_cells hSw); first | (go_simp; done) | (go_simp; with_reducible rfl))
            refine wpAnyH_ready (rs := [2]) (by kernel_rfl) (by simp) (AllReadyH.cons rfl (fun K hK => ?hc4r26n0q6) AllReadyH.nil)
            go_simp
            ((first | refine intro_alloc (fun X1 hBX hL92 => ?_) | refine intro_alloc_drew (fun X1 hBX hL92 => ?_)); (first | (have hO2 := hO.below hBX) | (have hO2 := (hO.below (Below.refl _ _).drew).below hBX)); (first | (have hL97 := below_push hBX hL97) | skip); have hO := hO2; have hqE := hO.box; clear hO2 hBX; (try dsimp only))
            refine hK.out _ _ ?hs4r26n0q6 (fun hHeld4r26n0q6 => ?ht4r26n0q6)
            case hs4r26n0q6 => ((try dsimp only); (exact hqE))
            clear hHeld hK
            have hHeld := hHeld4r26n0q6
            clear hHeld4r26n0q6
            refine wpAnyH_ready (rs := [3]) (by kernel_rfl) (by simp) (AllReadyH.cons rfl (fun K hK => ?hc4r26n0q7) AllReadyH.nil)
            (refine step_append_rd _ rfl (.tmp 90) (.tmp 92) rfl slInts dhi _ _ _ rfl hO.rn _ _ _ _ rfl (rd_lit1 hL92) (by intro u hu; simp at hu; subst hu; rfl) (by unfold maxLen; omega) (by omega) hO.lw.2 ?_; intro v93 w93 ho93 hg93 hd93 hnl93; (first | (have hL97 := grown_other hO.rn hg93 hL97 (by decide)) | skip); have hO2 := hO.push_n ho93 hg93 hd93; have hO := hO2; have hqE := hO.box; clear hO2 ho93 hg93 hd93 hnl93; (try dsimp only))
            refine hK.out _ _ ?hs4r26n0q7 (fun hHeld4r26n0q7 => ?ht4r26n0q7)
            case hs4r26n0q7 => ((try dsimp only); (exact hqE))
            clear hHeld hK
            have hHeld := hHeld4r26n0q7
            clear hHeld4r26n0q7
            refine wpAnyH_ready (rs := [6]) (by kernel_rfl) (by simp) (AllReadyH.cons rfl (fun K hK => ?hc4r26n0q8) AllReadyH.nil)
            go_simp
            (go_at_call 17; refine (HTX.out _).mono ?_; rintro e w96 ⟨rfl, hb96⟩; (first | (have hO2 := hO.below hb96) | (have hO2 := (hO.below (Below.refl _ _).drew).below hb96)); (first | (have hL92 := below_push hb96 hL92) | skip); have hO := hO2; have hqE := hO.box; clear hO2 hb96; (try dsimp only))
            refine hK.out _ _ ?hs4r26n0q8 (fun hHeld4r26n0q8 => ?ht4r26n0q8)
            case hs4r26n0q8 => ((try dsimp only); (exact hqE))
            clear hHeld hK
            have hHeld := hHeld4r26n0q8
            clear hHeld4r26n0q8
            refine wpAnyH_ready (rs := [7]) (by kernel_rfl) (by simp) (AllReadyH.cons rfl (fun K hK => ?hc4r26n0q9) AllReadyH.nil)
            go_simp
            ((first | refine intro_alloc (fun X1 hBX hL97 => ?_) | refine intro_alloc_drew (fun X1 hBX hL97 => ?_)); (first | (have hO2 := hO.below hBX) | (have hO2 := (hO.below (Below.refl _ _).drew).below hBX)); (first | (have hL92 := below_push hBX hL92) | skip); have hO := hO2; have hqE := hO.box; clear hO2 hBX; (try dsimp only))
            refine hK.out _ _ ?hs4r26n0q9 (fun hHeld4r26n0q9 => ?ht4r26n0q9)
            case hs4r26n0q9 => ((try dsimp only); (exact hqE))
            clear hHeld hK
            have hHeld := hHeld4r26n0q9
            clear hHeld4r26n0q9
            refine wpAnyH_ready (rs := [8]) (by kernel_rfl) (by simp) (AllReadyH.cons rfl (fun K hK => ?hc4r26n0q10) AllReadyH.nil)
            (refine step_append_rd _ rfl (.tmp 94) (.tmp 97) rfl slStrs dhi _ _ _ rfl hO.rt _ _ _ _ rfl (rd_lit1 hL97) (by intro u hu; simp at hu; subst hu; rfl) (by unfold maxLen; omega) (by omega) hO.lw.2 ?_; intro v98 w98 ho98 hg98 hd98 hnl98; (first | (have hL92 := grown_other hO.rt hg98 hL92 (by decide)) | skip); have hO2 := hO.push_t ho98 hg98 hd98; have hO := hO2; have hqE := hO.box; clear hO2 ho98 hg98 hd98 hnl98; (try dsimp only))
            refine hK.out _ _ ?hs4r26n0q10 (fun hHeld4r26n0q10 => ?ht4r26n0q10)
            case hs4r26n0q10 => ((try dsimp only); (exact hqE))
            clear hHeld hK
            have hHeld := hHeld4r26n0q10
            clear hHeld4r26n0q10
            refine wpAnyH_take (i := 10) (v := ?v4r26n0q11) rfl (by kernel_rfl) (by kernel_rfl) (by kernel_rfl) (fun _ _ _ h => h) (Or.inl ⟨by kernel_rfl, ?hy4r26n0q11⟩) (by assumption) ?hr4r26n0q11
            case hy4r26n0q11 => (intro w hSw; (try dsimp only at hSw); (obtain ⟨s0, s1, s2, s3, s4, s5⟩ := step_cells hSw); first | (go_simp; done) | (go_simp; with_reducible rfl))
            refine wpAnyH_take (i := 11) (v := ?v4r26n0q12) rfl (by kernel_rfl) (by kernel_rfl) (by kernel_rfl) (fun _ _ _ h => h) (Or.inl ⟨by kernel_rfl, ?hy4r26n0q12⟩) (by assumption) ?hr4r26n0q12
            case hy4r26n0q12 => (intro w hSw; (try dsimp only at hSw); (obtain ⟨s0, s1, s2, s3, s4, s5⟩ := step_cells hSw); first | (go_simp; done) | (go_simp; with_reducible rfl))
            refine wpAnyH_take (i := 12) (v := ?v4r26n0q13) rfl (by kernel_rfl) (by kernel_rfl) (by kernel_rfl) (fun _ _ _ h => h) (Or.inl ⟨by kernel_rfl, ?hy4r26n0q13⟩) (by assumption) ?hr4r26n0q13
            case hy4r26n0q13 => (intro w hSw; (try dsimp only at hSw); (obtain ⟨s0, s1, s2, s3, s4, s5⟩ := step_cells hSw); first | (go_simp; done) | (go_simp; with_reducible rfl))
            refine wpAnyH_done (by kernel_rfl) ?_ _
            clear hHeld
            refine NoPanic.normal ?_
            all_goals
              (try dsimp only [Exit.inBlock, Exit.then])
              refine hMK _ _ ⟨rfl, rfl, by kernel_rfl, by kernel_rfl, by kernel_rfl, by kernel_rfl, by kernel_rfl, by kernel_rfl, by kernel_rfl, by kernel_rfl, ?_⟩
              rw [HJJ.out.1, HJJ.out.2]
              exact hO
          rintro ⟨tF, dF⟩ W5 ⟨h139, hds, e0, e1, e7, e11, e15, e71, e72, e73, hG⟩
          simp only at h139 hds e0 e1 e7 e11 e15 e71 e72 e73 hG
          subst hds
          obtain ⟨nv5, hnv5⟩ : ∃ nv5, nv5 = slot tF 13 := ⟨_, rfl⟩
          obtain ⟨tv5, htv5⟩ : ∃ tv5, tv5 = slot tF 14 := ⟨_, rfl⟩
          rw [← hnv5, ← htv5] at hG
          (try dsimp only [Exit.inBlock, Exit.then])
          try apply_assumption
          rw [frame139 tF [] h139, e0, e1, e7, e11, e15, e71, e72, e73, ← hnv5, ← htv5]
          have HF := hidep (show GoI n L.length w w.heap.size dhi lo (.pointer (some ⟨jb, 0, none⟩)) (.pointer (some ⟨q, 0, none⟩)) nv5 tv5 (.int .i64 rn) (.int .i64 ((i + 1 : Nat) : Int)) W5 from
            ⟨i + 1, j2, D2, _, B2, rn, by omega, rfl, rfl, by have := HN2.out.2.2.2.1; have := HN2.out.2.2.2.2.1; omega, HN2.out.1, HR.out.1.1, HR.out.1.2, hG.jn, hG.dk, hG.rn, hG.rt, hG.nb, hG.tb, (fun x hx => ⟨(HB2.out x hx).1, hG.bB x hx⟩), hG.bel⟩)
          clear h139 e0 e1 e7 e11 e15 e71 e72 e73 hG hnv5 htv5 hO hnle
          go_wp2
          refine ⟨LoopI.mk rfl ⟨rfl, rfl, rfl, rfl, rfl, rfl, rfl, HF.out⟩, ?_⟩
          show L.length - _ < L.length - _
          simp [natI]; omega
        · have hG := HGS.out
          rw [← hnm, ← htm] at hG
          have HF := hidep (show GoI n L.length w w.heap.size dhi lo (.pointer (some ⟨jb, 0, none⟩)) (.pointer (some ⟨q, 0, none⟩)) nv tv (.int .i64 lst) (.int .i64 ((i + 1 : Nat) : Int)) w6 from
            ⟨i + 1, j2, D2, _, _, lst, by omega, rfl, rfl, by omega, hgi2, HR.out.1.1, HR.out.1.2, hG.jn, hG.dk, hG.rn, hG.rt, hG.nb, hG.tb, HBB.out, hG.bel⟩)
          clear hG hgi2 hnm htm hnext hsg2 hlst
          subst hre
          go_wp2
          refine ⟨LoopI.mk rfl ⟨rfl, rfl, rfl, rfl, rfl, rfl, rfl, HF.out⟩, ?_⟩
          show L.length - _ < L.length - _
          simp [natI]; omega
    · have hiki : ¬ (i : Int) < (k : Int) := by omega
      have HOP := hidep (open_any (.pointer (some ⟨q, 0, none⟩)) D wr _ _ hd hgi.fine.1 (HK.out.below hbw))
      have HFI := hidep (And.intro hj.at (And.intro (open_inv hgi) (And.intro hbw (And.intro ((Rd.of_own hrn).mono (T' := fun _ => True) (fun _ _ => trivial)) ((Rd.of_own hrt).mono (T' := fun _ => True) (fun _ _ => trivial))))))
      clear hgi hjo hDl hj hd hrn hrt hnb htb hB hbw hlst hi hik
      go_upto_region 32 with (first
        | (go_at_call 15; refine HOP.out.mono ?_; rintro e w3 ⟨pk, rfl, hk3, hb3⟩; obtain ⟨kb, hpk⟩ := jat_ptr hk3; subst hpk)
        | fail)
      have hj3 := HFI.out.1.below hb3
      have hno := HFI.out.2.2.2.1.below hb3
      have hto := HFI.out.2.2.2.2.below hb3
      have hw3 := HFI.out.2.2.1.trans (hb3.mono hbs)
      have HNO := hidep (fun Y (hY : Below w3.heap.size w3 Y) => show NumsAt Y nv j.nums from hno.below hY)
      have HTO := hidep (fun Y (hY : Below w3.heap.size w3 Y) => show StrsAt Y tv j.texts from hto.below hY)
      have HN1 := hidep (fun Y (hY : Below w3.heap.size w3 Y) => show Calls Tryd.prog 19 #[.pointer (some ⟨jb, 0, none⟩)] Y fun e w' => ∃ v, e = .returned v ∧ NumsAt w' v j.nums ∧ Below Y.heap.size Y w' from
        (numbers_any _ _ j Y _ (hj3.below hY)).mono fun e w' ⟨v, he, ho, hb⟩ => ⟨v, he, (Rd.of_own ho).mono (fun _ _ => trivial), hb⟩)
      have HT1 := hidep (fun Y (hY : Below w3.heap.size w3 Y) => show Calls Tryd.prog 20 #[.pointer (some ⟨jb, 0, none⟩)] Y fun e w' => ∃ v, e = .returned v ∧ StrsAt w' v j.texts ∧ Below Y.heap.size Y w' from
        (texts_any _ _ j Y _ (hj3.below hY)).mono fun e w' ⟨v, he, ho, hb⟩ => ⟨v, he, (Rd.of_own ho).mono (fun _ _ => trivial), hb⟩)
      have HN2 := hidep (fun Y (hY : Below w3.heap.size w3 Y) => show Calls Tryd.prog 19 #[.pointer (some ⟨kb, 0, none⟩)] Y fun e w' => ∃ v, e = .returned v ∧ NumsAt w' v j.nums ∧ Below Y.heap.size Y w' from by
        have h := numbers_any _ _ (openZ D) Y _ (hk3.below hY)
        rw [HFI.out.2.1.1] at h
        exact h.mono fun e w' ⟨v, he, ho, hb⟩ => ⟨v, he, (Rd.of_own ho).mono (fun _ _ => trivial), hb⟩)
      have HT2 := hidep (fun Y (hY : Below w3.heap.size w3 Y) => show Calls Tryd.prog 20 #[.pointer (some ⟨kb, 0, none⟩)] Y fun e w' => ∃ v, e = .returned v ∧ StrsAt w' v j.texts ∧ Below Y.heap.size Y w' from by
        have h := texts_any _ _ (openZ D) Y _ (hk3.below hY)
        rw [HFI.out.2.1.2] at h
        exact h.mono fun e w' ⟨v, he, ho, hb⟩ => ⟨v, he, (Rd.of_own ho).mono (fun _ _ => trivial), hb⟩)
      have hk := Below.refl w3.heap.size w3
      have HW := hidep hw3
      clear hj3 hno hto hw3 hk3 hb3 HOP HFI hiki
      go_wp2_with (first
        | (go_at_call 5; refine (HS.out _ HW.out).mono ?_; rintro e w8 ⟨rfl, hb8⟩; have hk := hk.trans hb8)
        | (go_at_call 19; first
            | ((with_reducible refine (HN1.out _ hk).mono ?_); rintro e w20 ⟨v20, rfl, hn20, hb20⟩; have hk := hk.trans (hb20.mono hk.size))
            | ((with_reducible refine (HN2.out _ hk).mono ?_); rintro e w20 ⟨v20, rfl, hn20, hb20⟩; have hk := hk.trans (hb20.mono hk.size)))
        | (go_at_call 20; first
            | ((with_reducible refine (HT1.out _ hk).mono ?_); rintro e w22 ⟨v22, rfl, hn22, hb22⟩; have hk := hk.trans (hb22.mono hk.size))
            | ((with_reducible refine (HT2.out _ hk).mono ?_); rintro e w22 ⟨v22, rfl, hn22, hb22⟩; have hk := hk.trans (hb22.mono hk.size)))
        | (go_at_call 18; refine (sameInts_t _ _ j.nums _ hn20 (HNO.out _ hk)).mono ?_; rintro e w21 ⟨rfl, hb21⟩; have hk := hk.trans (hb21.mono hk.size))
        | (go_at_call 10; refine (sameTexts_t _ _ j.texts _ hn22 (HTO.out _ hk)).mono ?_; rintro e w23 ⟨rfl, hb23⟩; have hk := hk.trans (hb23.mono hk.size))
        | fail)
      go_ret
      exact ⟨rfl, HW.out.trans (hk.mono HW.out.size)⟩
end Go.Proofs.YtipbkdlekanlmaaDoor
