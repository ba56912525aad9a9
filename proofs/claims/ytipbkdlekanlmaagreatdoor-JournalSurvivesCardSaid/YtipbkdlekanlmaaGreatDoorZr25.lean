/- Journal: the code's Append. -/
import Derived.Test.YtipbkdlekanlmaaGreatDoorZr24
namespace Go.Proofs.YtipbkdlekanlmaaGreatDoor
open Go.RowKit Go.Lab Go.Disk Go.Jn
attribute [local go_sem] Oper.semAt_some
set_option maxRecDepth 100000
theorem range_map99 (f : Nat → Value) : (List.range 99).map f = [f 0, f 1, f 2, f 3, f 4, f 5, f 6, f 7, f 8, f 9, f 10, f 11, f 12, f 13, f 14, f 15, f 16, f 17, f 18, f 19, f 20, f 21, f 22, f 23, f 24, f 25, f 26, f 27, f 28, f 29, f 30, f 31, f 32, f 33, f 34, f 35, f 36, f 37, f 38, f 39, f 40, f 41, f 42, f 43, f 44, f 45, f 46, f 47, f 48, f 49, f 50, f 51, f 52, f 53, f 54, f 55, f 56, f 57, f 58, f 59, f 60, f 61, f 62, f 63, f 64, f 65, f 66, f 67, f 68, f 69, f 70, f 71, f 72, f 73, f 74, f 75, f 76, f 77, f 78, f 79, f 80, f 81, f 82, f 83, f 84, f 85, f 86, f 87, f 88, f 89, f 90, f 91, f 92, f 93, f 94, f 95, f 96, f 97, f 98] := rfl
theorem frame99 (t : Array Value) (ds : List Deferred) (h : t.size = 99) : ({ tmps := t, defers := ds } : Act) = { tmps := #[slot t 0, slot t 1, slot t 2, slot t 3, slot t 4, slot t 5, slot t 6, slot t 7, slot t 8, slot t 9, slot t 10, slot t 11, slot t 12, slot t 13, slot t 14, slot t 15, slot t 16, slot t 17, slot t 18, slot t 19, slot t 20, slot t 21, slot t 22, slot t 23, slot t 24, slot t 25, slot t 26, slot t 27, slot t 28, slot t 29, slot t 30, slot t 31, slot t 32, slot t 33, slot t 34, slot t 35, slot t 36, slot t 37, slot t 38, slot t 39, slot t 40, slot t 41, slot t 42, slot t 43, slot t 44, slot t 45, slot t 46, slot t 47, slot t 48, slot t 49, slot t 50, slot t 51, slot t 52, slot t 53, slot t 54, slot t 55, slot t 56, slot t 57, slot t 58, slot t 59, slot t 60, slot t 61, slot t 62, slot t 63, slot t 64, slot t 65, slot t 66, slot t 67, slot t 68, slot t 69, slot t 70, slot t 71, slot t 72, slot t 73, slot t 74, slot t 75, slot t 76, slot t 77, slot t 78, slot t 79, slot t 80, slot t 81, slot t 82, slot t 83, slot t 84, slot t 85, slot t 86, slot t 87, slot t 88, slot t 89, slot t 90, slot t 91, slot t 92, slot t 93, slot t 94, slot t 95, slot t 96, slot t 97, slot t 98], defers := ds } := by
  have e : t = ((List.range 99).map (slot t)).toArray := by
    apply Array.ext
    · simp [h]
    · intro i h1 h2
      simp [slot, Array.getD, h1]
  rw [range_map99] at e
  exact congrArg (fun x => ({ tmps := x, defers := ds } : Act)) e
/-- A journal whose blocks are all among B. -/
def JOn (B : Nat → Prop) (w : World) (lo : Nat) (p dv : Value) (j : JZ) : Prop := ∃ b nv bv tv, p = .pointer (some ⟨b, 0, none⟩) ∧ JIn w lo b dv nv bv tv j ∧ B b ∧ (∀ x, nv.ownBlock = some x → B x) ∧ (∀ x, bv.ownBlock = some x → B x) ∧ (∀ x, tv.ownBlock = some x → B x)
theorem JOn.at {B : Nat → Prop} {w : World} {lo : Nat} {p dv : Value} {j : JZ} (h : JOn B w lo p dv j) : JAt w lo p dv j := by
  obtain ⟨b, nv, bv, tv, hp, hj, _⟩ := h
  exact ⟨b, nv, bv, tv, hp, hj⟩
theorem JAt.on {w : World} {lo : Nat} {p dv : Value} {j : JZ} (h : JAt w lo p dv j) : JOn (fun x => lo ≤ x ∧ x < w.heap.size) w lo p dv j := by
  obtain ⟨b, nv, bv, tv, hp, hj⟩ := h
  exact ⟨b, nv, bv, tv, hp, hj, ⟨hj.hb, lt_of_block hj.box⟩, fun x hx => hj.rn.lt x hx, fun x hx => hj.rb.lt x hx, fun x hx => hj.rt.lt x hx⟩
theorem JOn.mono {B B' : Nat → Prop} {w : World} {lo : Nat} {p dv : Value} {j : JZ} (h : JOn B w lo p dv j) (hB : ∀ x, B x → B' x) : JOn B' w lo p dv j := by
  obtain ⟨b, nv, bv, tv, hp, hj, h1, h2, h3, h4⟩ := h
  exact ⟨b, nv, bv, tv, hp, hj, hB _ h1, fun x hx => hB _ (h2 x hx), fun x hx => hB _ (h3 x hx), fun x hx => hB _ (h4 x hx)⟩
theorem JOn.turned {B T : Nat → Prop} {w w' : World} {lo : Nat} {p dv : Value} {j : JZ} (h : JOn B w lo p dv j) (hT : Turned T w w') (hB : ∀ x, B x → ¬ T x) : JOn B w' lo p dv j := by
  obtain ⟨b, nv, bv, tv, hp, hj, h1, h2, h3, h4⟩ := h
  exact ⟨b, nv, bv, tv, hp, ⟨hj.hb, hT.cells hj.box (hB _ h1), ownsRow_turned hj.rn hT (fun g hg => hB _ (h2 g hg)), ownsRow_turned hj.rb hT (fun g hg => hB _ (h3 g hg)), ownsRow_turned hj.rt hT (fun g hg => hB _ (h4 g hg)), hj.ne, hj.len⟩, h1, h2, h3, h4⟩
theorem JOn.below {B : Nat → Prop} {w w' : World} {lo : Nat} {p dv : Value} {j : JZ} (h : JOn B w lo p dv j) (hb : Below w.heap.size w w') : JOn B w' lo p dv j := h.turned (Turned.of_below (T := fun _ => False) hb) (fun _ _ h => h)
theorem DiskAt.turned {T : Nat → Prop} {w w' : World} {lo hi : Nat} {p : Value} {D : Dk} (h : DiskAt w lo hi p D) (hT : Turned T w w') (hd : ∀ x, lo ≤ x → x < hi → ¬ T x) : DiskAt w' lo hi p D := by
  obtain ⟨b, g, mb, wb, c, l, P, W, hp, h⟩ := h
  have hz := h.hi
  have e : ∀ k, lo ≤ k ∧ k < hi → w'.heap[k]? = w.heap[k]? := fun k hk => hT.block k (by omega) (hd k hk.1 hk.2)
  exact ⟨b, g, mb, wb, c, l, P, W, hp, h.hb, h.hg, h.hm, h.hw, Nat.le_trans hz hT.size, h.ne, h.cap, h.top.of_block (e _ h.hb), h.row.of_block (e _ h.hg), ownsMap_block h.pend (e _ h.hm), ownsMap_block h.worn (e _ h.hw), h.pv, h.wv, h.lft, h.ok⟩
theorem Turned.of_turn {lo hi : Nat} {w w' : World} (h : Turn lo hi w w') : Turned (fun x => lo ≤ x ∧ x < hi) w w' := ⟨h.os, h.tape, h.output, h.size, fun b hb hn => h.block b hb hn⟩
theorem Turned.grownB {T : Nat → Prop} {w W W' : World} {row : Option Nat} (h : Turned T w W) (hg : W.grownBy W' row) (hr : ∀ r, row = some r → T r ∨ w.heap.size ≤ r) : Turned T w W' :=
  ⟨hg.os.trans h.os, hg.tape.trans h.tape, hg.output.trans h.output, Nat.le_trans h.size hg.size, fun b hb hT => (hg.block b (Nat.lt_of_lt_of_le hb h.size) (fun e => by
    rcases hr b e.symm with h1 | h1
    · exact hT h1
    · omega)).trans (h.block b hb hT)⟩
theorem JIn.turn {w w' : World} {lo b dlo dhi : Nat} {dv nv bv tv : Value} {j : JZ} (h : JIn w lo b dv nv bv tv j) (hT : Turn dlo dhi w w') (hd : dhi ≤ lo) : JIn w' lo b dv nv bv tv j :=
  ⟨h.hb, (hT.block b (lt_of_block h.box) (by have := h.hb; omega)).trans h.box, own_turn h.rn hT hd, own_turn h.rb hT hd, own_turn h.rt hT hd, h.ne, h.len⟩
/-- What stands while Append puts its record into the journal. -/
structure ApS (B : Nat → Prop) (lo b : Nat) (dv nv bv tv nv' tv' : Value) (j : JZ) (nl : List Int) (tl : List ByteArray) (w0 X : World) : Prop where
  mid : JMid X lo b dv nv bv tv nv' tv' j nl tl
  tur : Turned B w0 X
  bn : ∀ x, nv'.ownBlock = some x → B x ∨ w0.heap.size ≤ x
  bt : ∀ x, tv'.ownBlock = some x → B x ∨ w0.heap.size ≤ x
section
variable {B : Nat → Prop} {lo b : Nat} {dv nv bv tv nv' tv' : Value} {j : JZ} {nl : List Int} {tl : List ByteArray} {w0 X X' : World}
theorem ApS.below (h : ApS B lo b dv nv bv tv nv' tv' j nl tl w0 X) (hb : Below X.heap.size X X') : ApS B lo b dv nv bv tv nv' tv' j nl tl w0 X' := ⟨h.mid.below hb, h.tur.below hb, h.bn, h.bt⟩
theorem ApS.cells (h : ApS B lo b dv nv bv tv nv' tv' j nl tl w0 X) : X.cell? ⟨b, 1, none⟩ = some nv ∧ X.cell? ⟨b, 3, none⟩ = some tv := ⟨by simp [World.cell?, h.mid.box], by simp [World.cell?, h.mid.box]⟩
theorem ApS.free (h : ApS B lo b dv nv bv tv nv' tv' j nl tl w0 X) (k : Nat) : X.frozen? ⟨b, k, none⟩ = false := box_frozen h.mid.box k
theorem ApS.low (h : ApS B lo b dv nv bv tv nv' tv' j nl tl w0 X) : lo ≤ X.heap.size := by
  have h1 := h.mid.hb
  have h2 := lt_of_block h.mid.box
  omega
theorem ApS.push_n (h : ApS B lo b dv nv bv tv nv' tv' j nl tl w0 X) {v : Value} {x : Int} (ho : X'.ownsRow lo 3 1 v (nl.length + 1) (intsC nl ++ [.int .i64 x])) (hg : X.grownBy X' nv'.ownBlock)
    (hd : v.ownBlock = nv'.ownBlock ∨ v.ownBlock = some X.heap.size) (hl : nl.length + 1 ≤ 10000) : ApS B lo b dv nv bv tv v tv' j (nl ++ [x]) tl w0 X' :=
  ⟨h.mid.push_n ho hg hd hl, h.tur.grownB hg h.bn, fun y hy => by
    rcases hd with hd | hd
    · exact h.bn y (by rw [← hd]; exact hy)
    · rw [hd] at hy
      injection hy with hy
      exact .inr (by rw [← hy]; exact h.tur.size), h.bt⟩
theorem ApS.push_t (h : ApS B lo b dv nv bv tv nv' tv' j nl tl w0 X) {v : Value} {x : ByteArray} (ho : X'.ownsRow lo 9 1 v (tl.length + 1) (strL tl ++ [.string x])) (hg : X.grownBy X' tv'.ownBlock)
    (hd : v.ownBlock = tv'.ownBlock ∨ v.ownBlock = some X.heap.size) (hl : tl.length + 1 ≤ 10000) : ApS B lo b dv nv bv tv nv' v j nl (tl ++ [x]) w0 X' :=
  ⟨h.mid.push_t ho hg hl, h.tur.grownB hg h.bt, h.bn, fun y hy => by
    rcases hd with hd | hd
    · exact h.bt y (by rw [← hd]; exact hy)
    · rw [hd] at hy
      injection hy with hy
      exact .inr (by rw [← hy]; exact h.tur.size)⟩
end
theorem ApS.fin {B : Nat → Prop} {lo b : Nat} {dv nv bv tv nv' tv' : Value} {j : JZ} {nl : List Int} {tl : List ByteArray} {w0 X : World} (h : ApS B lo b dv nv bv tv nv' tv' j nl tl w0 X) (hb : B b) :
    ∃ nv2 tv2, JIn ((X.setCell ⟨b, 1, none⟩ nv').setCell ⟨b, 3, none⟩ tv') lo b dv nv2 bv tv2 { j with nums := nl, texts := tl } ∧ (∀ x, nv2.ownBlock = some x → B x ∨ w0.heap.size ≤ x) ∧ (∀ x, tv2.ownBlock = some x → B x ∨ w0.heap.size ≤ x) ∧ Turned B w0 ((X.setCell ⟨b, 1, none⟩ nv').setCell ⟨b, 3, none⟩ tv') :=
  ⟨nv', tv', h.mid.done, h.bn, h.bt, (h.tur.setCell ⟨b, 1, none⟩ _ (.inr hb)).setCell ⟨b, 3, none⟩ _ (.inr hb)⟩
theorem ApS.fin' {B : Nat → Prop} {lo b : Nat} {dv nv bv tv nv' tv' : Value} {j : JZ} {nl : List Int} {tl : List ByteArray} {w0 X : World} (h : ApS B lo b dv nv bv tv nv' tv' j nl tl w0 X) (hb : B b) :
    ∃ nv2 tv2, JIn ((X.setCell ⟨b, 3, none⟩ tv').setCell ⟨b, 1, none⟩ nv') lo b dv nv2 bv tv2 { j with nums := nl, texts := tl } ∧ (∀ x, nv2.ownBlock = some x → B x ∨ w0.heap.size ≤ x) ∧ (∀ x, tv2.ownBlock = some x → B x ∨ w0.heap.size ≤ x) ∧ Turned B w0 ((X.setCell ⟨b, 3, none⟩ tv').setCell ⟨b, 1, none⟩ nv') :=
  ⟨nv', tv', h.mid.done', h.bn, h.bt, (h.tur.setCell ⟨b, 3, none⟩ _ (.inr hb)).setCell ⟨b, 1, none⟩ _ (.inr hb)⟩
/-- Behind Append's last stores. -/
def ApT (B : Nat → Prop) (lo b : Nat) (nx : Int) (dv bv : Value) (j : JZ) (w0 : World) (a : Act) (W : World) : Prop :=
  a.tmps.size = 99 ∧ a.defers = [] ∧ slot a.tmps 6 = .int .i64 nx ∧ ∃ nv2 tv2, JIn W lo b dv nv2 bv tv2 j ∧ (∀ x, nv2.ownBlock = some x → B x ∨ w0.heap.size ≤ x) ∧ (∀ x, tv2.ownBlock = some x → B x ∨ w0.heap.size ≤ x) ∧ Turned B w0 W
theorem pack_len (num : Int) (t : ByteArray) (h1 : 1 ≤ num ∧ num ≤ 4096) (h2 : t.size ≤ 8000) : packE num t = 0 ∧ 1 ≤ (packL num t).length ∧ (packL num t).length ≤ 167 ∧ ∀ s ∈ packL num t, s.size ≤ 1000 := by
  have he : packE num t = 0 := by
    unfold packE
    rw [if_neg (by omega), if_neg (by omega)]
  have hc := cntZ_rng ((nums t).length : Int)
  refine ⟨he, ?_⟩
  unfold packL
  rw [if_pos he, List.length_map]
  unfold packB
  rw [List.length_map, List.length_range]
  refine ⟨?_, by omega, ?_⟩
  · rw [nums_len]
    unfold cntZ
    rw [if_neg (by omega)]
    omega
  · intro s hs
    simp only [List.mem_map, List.mem_range] at hs
    obtain ⟨_, ⟨k, _, rfl⟩, rfl⟩ := hs
    have : (strOfNums (secB num.toNat (nums t) k)).size = 64 := by
      rw [← nums_len, nums_str (secB_rng _ _ _ (nums_rng t)), secB_len]
    omega
set_option maxHeartbeats 8000000 in
theorem append_any (p dv : Value) (j : JZ) (D : Dk) (t : ByteArray) (w : World) (lo dlo dhi : Nat) (B : Nat → Prop) (hj : JOn B w lo p dv j) (hd : DiskAt w dlo dhi dv D) (hlo : dhi ≤ lo) (hts : t.size ≤ 100000)
    (hs : 0 ≤ j.stop ∧ j.stop ≤ 100000) (hx : 1 ≤ j.next ∧ j.next ≤ 100000) (hl : j.nums.length < 10000 ∧ j.texts.length < 10000) (hk : w.rangeAt 2 0 (u32C ks0)) :
    Calls Tryz.prog 26 #[p, .string t] w fun e w' => e = .returned (.tuple #[.int .i64 (appendZ j D t).1, .int .i64 (appendZ j D t).2.1]) ∧ JOn (fun x => B x ∨ w.heap.size ≤ x) w' lo p dv (appendZ j D t).2.2.1 ∧ DiskAt w' dlo dhi dv (appendZ j D t).2.2.2 ∧
      Turned (fun x => (dlo ≤ x ∧ x < dhi) ∨ B x) w w' := by
  have hjB := hj.mono (B' := fun x => B x ∨ w.heap.size ≤ x) (fun x hx => .inl hx)
  have hJ := hj.at
  obtain ⟨b, nv, bv, tv, rfl, hin, hBb, hBn, hBv, hBt⟩ := hj
  have HR := hidep (room_any _ dv j D w lo dlo dhi hJ hd hs)
  obtain ⟨c0, c1, c2, c3, c4, c5, c6⟩ := hin.cells
  have HB := hidep (And.intro hBb (And.intro hBn (And.intro hBv hBt)))
  have HK := hidep hk
  obtain ⟨p, hp⟩ : ∃ p, p = Value.pointer (some ⟨b, 0, none⟩) := ⟨_, rfl⟩
  have HJ := hidep (And.intro hjB (And.intro hin (And.intro hd (And.intro hJ hp))))
  clear hjB hin hd hJ hk hBb hBn hBv hBt hp
  obtain ⟨cl, hcl⟩ : ∃ cl, cl = j.closed := ⟨_, rfl⟩
  obtain ⟨nx, hnx⟩ : ∃ nx, nx = j.next := ⟨_, rfl⟩
  obtain ⟨st, hst⟩ : ∃ st, st = j.stop := ⟨_, rfl⟩
  rw [← hcl] at c6
  rw [← hnx] at c4 hx
  rw [← hst] at c5 hs
  cases cl with
  | true =>
    have hz : appendZ j D t = (0, 25, j, D) := by unfold appendZ; rw [if_pos hcl.symm]
    have HZ := hidep hz
    clear hz hcl hnx hst
    go_enter Tryz.func26, Tryz.ntmps26
    go_wp2
    refine bodyPost_ret (P := Tryz.prog) (fn := Tryz.f26) (results_tmp2 rfl _ _ _) (by kernel_rfl) ?_
    rw [HZ.out]
    exact ⟨by kernel_rfl, HJ.out.1, HJ.out.2.2.1, Turned.refl _ _⟩
  | false =>
    have hcf : ¬ j.closed = true := by rw [← hcl]; decide
    by_cases hsz : 8000 < t.size
    · have hz : appendZ j D t = (0, 4, j, D) := by unfold appendZ; rw [if_neg hcf, if_pos (.inl hsz)]
      have HZ := hidep hz
      have g1 : (t.size : Int) > 8000 := by omega
      clear hz hcl hnx hst hcf hsz
      go_enter Tryz.func26, Tryz.ntmps26
      go_wp2
      refine bodyPost_ret (P := Tryz.prog) (fn := Tryz.f26) (results_tmp2 rfl _ _ _) (by kernel_rfl) ?_
      rw [HZ.out]
      exact ⟨by kernel_rfl, HJ.out.1, HJ.out.2.2.1, Turned.refl _ _⟩
    · have g1 : ¬ (t.size : Int) > 8000 := by omega
      by_cases hnb : 4096 < nx
      · have hz : appendZ j D t = (0, 4, j, D) := by unfold appendZ; rw [if_neg hcf, if_pos (.inr (by rw [← hnx]; exact hnb))]
        have HZ := hidep hz
        have g2 : nx > 4096 := hnb
        clear hz hcl hnx hst hcf hsz hnb
        go_enter Tryz.func26, Tryz.ntmps26
        go_wp2
        refine bodyPost_ret (P := Tryz.prog) (fn := Tryz.f26) (results_tmp2 rfl _ _ _) (by kernel_rfl) ?_
        rw [HZ.out]
        exact ⟨by kernel_rfl, HJ.out.1, HJ.out.2.2.1, Turned.refl _ _⟩
      · have g2 : ¬ nx > 4096 := hnb
        obtain ⟨m, hm⟩ : ∃ m : Nat, cntZ (t.size : Int) = (m : Int) := ⟨(cntZ (t.size : Int)).toNat, by have := cntZ_rng (t.size : Int); omega⟩
        have hm167 : m ≤ 167 := by have := cntZ_rng (t.size : Int); omega
        have HCN := hidep (show ∀ W, Calls Tryz.prog 16 #[.int .i64 (t.size : Int)] W fun e w' => e = .returned (.int .i64 (m : Nat)) ∧ w' = W from fun W => by
          have := count_any (t.size : Int) W (by omega) (by omega)
          rw [hm] at this
          exact this)
        have hin4 := HJ.out.2.2.1.ok.1.2.1
        obtain ⟨rm, hrm⟩ : ∃ rm, rm = roomZ j D := ⟨_, rfl⟩
        have hrb : -200000 ≤ rm ∧ rm ≤ 200000 := by
          rw [hrm]
          unfold roomZ
          rw [← hst]
          omega
        rw [← hrm] at HR
        by_cases hfu : rm < (m : Int)
        · have hz : appendZ j D t = (0, 24, j, D) := by unfold appendZ; rw [if_neg hcf, if_neg (by rw [← hnx]; omega), if_pos (by rw [← hrm, hm]; exact hfu)]
          have HZ := hidep hz
          have g3 : (m : Int) > rm := hfu
          clear hz hcl hnx hst hcf hsz hnb hm hrm hfu
          go_enter Tryz.func26, Tryz.ntmps26
          go_wp2_with (first
            | (go_at_call 16; refine (HCN.out _).mono ?_; rintro e w3 ⟨rfl, rfl⟩)
            | (go_at_call 38; refine HR.out.mono ?_; rintro e w4 ⟨rfl, hb4⟩)
            | fail)
          refine bodyPost_ret (P := Tryz.prog) (fn := Tryz.f26) (results_tmp2 rfl _ _ _) (by kernel_rfl) ?_
          rw [HZ.out]
          exact ⟨by kernel_rfl, HJ.out.1.below hb4, HJ.out.2.2.1.below hb4, Turned.of_below hb4⟩
        · have g3 : ¬ (m : Int) > rm := hfu
          obtain ⟨hpe, hl1, hl2, hlz⟩ := pack_len nx t (by omega) (by omega)
          obtain ⟨l, hld⟩ : ∃ l, l = packL nx t := ⟨_, rfl⟩
          have hz : appendZ j D t = if (putZ D st l).1 ≠ 0 then (0, (putZ D st l).1, { j with next := nx + 1, stop := st + l.length, closed := true }, (putZ D st l).2.2) else if (putZ D st l).2.1 = false then (0, 26, { j with next := nx + 1, stop := st + l.length }, (putZ D st l).2.2) else (nx, 0, { j with next := nx + 1, stop := st + l.length, nums := j.nums ++ [nx], texts := j.texts ++ [t] }, (putZ D st l).2.2) := by
            unfold appendZ
            rw [if_neg hcf, if_neg (by rw [← hnx]; omega), if_neg (by rw [← hrm, hm]; exact hfu), ← hnx, ← hst, ← hld]
          have HPK := hidep (fun Y (hY : Below w.heap.size w Y) => pack_any nx t Y (by omega) (by omega) (HK.out.below hY))
          rw [hpe, ← hld] at HPK
          rw [← hld] at hl1 hl2 hlz
          have HZ := hidep hz
          have HLZ := hidep hlz
          have HNX := hidep (And.intro hcl (And.intro hnx hst))
          clear hz hcl hcf hsz hnb hm hrm hfu hpe hld hlz hnx hst
          go_enter Tryz.func26, Tryz.ntmps26
          go_upto_region 7 with (first
            | (go_at_call 16; refine (HCN.out _).mono ?_; rintro e w3 ⟨rfl, hw3⟩; rw [hw3]; clear hw3)
            | (go_at_call 38; refine HR.out.mono ?_; rintro e w4 ⟨rfl, hb4⟩)
            | fail)
          refine wp_abs (fun X => Below w.heap.size w X) hb4 ?_
          rintro X hbX
          clear hb4 c0 c1 c2 c3 c6 HCN HR g1 g2 g3
          have d4 := Turned.cell (Turned.of_below (T := fun _ => False) hbX) c4 (fun h => h)
          have d5 := Turned.cell (Turned.of_below (T := fun _ => False) hbX) c5 (fun h => h)
          refine wp_cutA 99 (fun tm ds => ds = [] ∧ slot tm 0 = .pointer (some ⟨b, 0, none⟩) ∧ slot tm 1 = .string t) (by kernel_rfl) (by exact ⟨by kernel_rfl, by kernel_rfl, by kernel_rfl⟩) ?_
          rintro tA dA h99 ⟨rfl, e0, e1⟩
          rw [frame99 tA [] h99, e0, e1]
          clear h99 e0 e1 c4 c5
          go_quiet (fail)
          (try dsimp only [Exit.inBlock, Exit.then])
          apply_assumption
          refine wp_abs (fun Y => Below w.heap.size w Y) (hbX.trans ((below_drewN (Below.refl _ _) nq).mono hbX.size)) ?_
          clear hbX d4 d5
          rintro X hbX
          refine wp_cutA 99 (fun tm ds => ds = [] ∧ slot tm 0 = .pointer (some ⟨b, 0, none⟩) ∧ slot tm 1 = .string t ∧ slot tm 6 = .int .i64 nx ∧ slot tm 7 = .int .i64 st) (by kernel_rfl) (by exact ⟨by kernel_rfl, by kernel_rfl, by kernel_rfl, by kernel_rfl, by kernel_rfl⟩) ?_
          rintro tA dA h99 ⟨rfl, e0, e1, e6, e7⟩
          rw [frame99 tA [] h99, e0, e1, e6, e7]
          clear h99 e0 e1 e6 e7
          obtain ⟨n, hn⟩ : ∃ n, n = l.length := ⟨_, rfl⟩
          rw [← hn] at hl1 hl2
          have HN := hidep hn
          clear hn
          have hw1 : IntKind.i64.wrap (nx + 1) = nx + 1 := IntWalk.i64_in _ (by omega)
          have hw2 : IntKind.i64.wrap (st + (n : Int)) = st + (n : Int) := IntWalk.i64_in _ (by omega)
          go_upto_region 9 with (first
            | (go_at_call 40; refine (HPK.out _ hbX).mono ?_; rintro e w8 ⟨v, rfl, ho8, hb8⟩)
            | fail)
          have hbw8 := hbX.trans (hb8.mono hbX.size)
          have hin8 := HJ.out.2.1.below hbw8
          obtain ⟨d0, d1, d2, d3, d4, d5, d6⟩ := hin8.cells
          rw [← HNX.out.2.1] at d4
          rw [← HNX.out.2.2] at d5
          have f4 := box_frozen hin8.box 4
          have f5 := box_frozen hin8.box 5
          obtain ⟨va, vc, rfl, hvl, hvc⟩ := (Rd.of_own ho8).form
          rw [← HN.out] at hvl ho8 ⊢
          go_upto_region 10 with (fail)
          have hlow := Nat.lt_of_le_of_lt HJ.out.2.1.hb (lt_of_block HJ.out.2.1.box)
          have hbs := hbX.size
          have hT10 : Turned (fun x => x = b) w8 ((w8.setCell ⟨b, 4, none⟩ (.int .i64 (nx + 1))).setCell ⟨b, 5, none⟩ (.int .i64 (st + (n : Int)))) := ((Turned.refl (fun x => x = b) w8).setCell ⟨b, 4, none⟩ _ (.inr rfl)).setCell ⟨b, 5, none⟩ _ (.inr rfl)
          have hbx1 := heap_set hin8.box 4 (.int .i64 (nx + 1))
          refine wp_abs (fun Y => JIn Y lo b dv nv bv tv { j with next := nx + 1, stop := st + (n : Int) } ∧ Y.ownsRow X.heap.size 9 1 (.slice va n vc) n (strL l) ∧ DiskAt Y dlo dhi dv D ∧ Turned (fun x => x = b) w Y) ⟨(hin8.nxt (nx + 1)).stop (st + (n : Int)), own_boxt (own_boxt ho8 hin8.box (by decide) 4 _) hbx1 (by decide) 5 _, (HJ.out.2.2.1.below hbw8).turned hT10 (fun x h1 h2 h3 => by
            have := hin8.hb
            omega), (Turned.of_below hbw8).trans hT10⟩ ?_
          clear hT10 hbx1 d0 d1 d2 d3 d4 d5 d6 f4 f5 hin8 ho8 hbw8 hb8
          rintro X10 ⟨hin10, ho10, hd10, hT10⟩
          refine wp_cutA 99 (fun tm ds => ds = [] ∧ slot tm 0 = .pointer (some ⟨b, 0, none⟩) ∧ slot tm 1 = .string t ∧ slot tm 6 = .int .i64 nx ∧ slot tm 7 = .int .i64 st ∧ slot tm 8 = .slice va n vc) (by kernel_rfl) (by exact ⟨by kernel_rfl, by kernel_rfl, by kernel_rfl, by kernel_rfl, by kernel_rfl, by kernel_rfl⟩) ?_
          rintro tB dB h99 ⟨rfl, e0, e1, e6, e7, e8⟩
          rw [frame99 tB [] h99, e0, e1, e6, e7, e8]
          clear h99 e0 e1 e6 e7 e8
          have hwr := writeJ_any (.pointer (some ⟨b, 0, none⟩)) dv (.slice va n vc) _ D st l X10 lo dlo dhi X.heap.size ⟨b, nv, bv, tv, rfl, hin10⟩ hd10 hlo (by omega) (by rw [← HN.out]; exact ho10) hs (by rw [← HN.out]; omega) (by rw [← HN.out]; omega) HLZ.out
          have hz := HZ.out
          rw [← HN.out] at hz
          obtain ⟨r, hr⟩ : ∃ r, r = putZ D st l := ⟨_, rfl⟩
          rw [← hr] at hwr hz
          obtain ⟨er, sm, D2⟩ := r
          simp only at hwr hz
          have HW := hidep hwr
          have HZ2 := hidep hz
          have H10 := hidep (And.intro hin10 hT10)
          clear hwr hz hr hin10 ho10 hd10 hT10
          go_upto_region 11 with (first
            | (go_at_call 63; refine HW.out.mono ?_; rintro e w11 ⟨rfl, hd11, hT11⟩)
            | fail)
          have hin11 := H10.out.1.turn hT11 hlo
          have hT := (H10.out.2.mono (T' := fun x => (dlo ≤ x ∧ x < dhi) ∨ B x) (fun x _ hx => .inr (by rw [hx]; exact HB.out.1))).trans ((Turned.of_turn hT11).mono (fun x _ hx => .inl hx))
          have hsz11 : w.heap.size ≤ w11.heap.size := hT.size
          by_cases h0 : er = 0
          · have g1 : (er != 0) = false := by simp [h0]
            have g2 : (er == 0) = true := by simp [h0]
            have hz := HZ2.out
            rw [if_neg (by intro h; exact h h0)] at hz
            cases sm with
            | false =>
              rw [if_pos rfl] at hz
              have HZ3 := hidep hz
              clear hz h0 HZ HZ2 HW
              go_wp2
              refine bodyPost_ret (P := Tryz.prog) (fn := Tryz.f26) (results_tmp2 rfl _ _ _) (by kernel_rfl) ?_
              rw [HZ3.out]
              exact ⟨by kernel_rfl, ⟨b, nv, bv, tv, rfl, hin11, .inl HB.out.1, fun x hx => .inl (HB.out.2.1 x hx), fun x hx => .inl (HB.out.2.2.1 x hx), fun x hx => .inl (HB.out.2.2.2 x hx)⟩, hd11, hT⟩
            | true =>
              rw [if_neg (by decide)] at hz
              have HZ3 := hidep hz
              have HIN := hidep (And.intro hin11 (And.intro hd11 hT))
              clear hz h0 HZ HZ2 HW hin11 hd11 hT hT11
              obtain ⟨na, nc, rfl, hnl, hnc⟩ := (Rd.of_own HIN.out.1.rn).form
              obtain ⟨ta, tc, rfl, htl, htc⟩ := (Rd.of_own HIN.out.1.rt).form
              have hO : ApS (fun x => x = b ∨ (Value.slice na j.nums.length nc).ownBlock = some x ∨ (Value.slice ta j.texts.length tc).ownBlock = some x) lo b dv _ bv _ _ _ _ j.nums j.texts w11 w11 :=
                ⟨HIN.out.1.mid, Turned.refl _ _, fun x hx => .inl (.inr (.inl hx)), fun x hx => .inl (.inr (.inr hx))⟩
              obtain ⟨B1, hB1⟩ : ∃ B1 : Nat → Prop, B1 = fun x => x = b ∨ (Value.slice na j.nums.length nc).ownBlock = some x ∨ (Value.slice ta j.texts.length tc).ownBlock = some x := ⟨_, rfl⟩
              rw [← hB1] at hO
              have HBB := hidep (show (∀ x, B1 x → B x ∧ lo ≤ x) ∧ B1 b from by
                rw [hB1]
                refine ⟨fun x hx => ?_, .inl rfl⟩
                rcases hx with rfl | hx | hx
                · exact ⟨HB.out.1, HIN.out.1.hb⟩
                · exact ⟨HB.out.2.1 x hx, (HIN.out.1.rn.lt x hx).1⟩
                · exact ⟨HB.out.2.2.2 x hx, (HIN.out.1.rt.lt x hx).1⟩)
              clear hB1
              obtain ⟨d1, d3⟩ := hO.cells
              have f1' := hO.free 1
              have f3' := hO.free 3
              go_upto_region 16 with (fail)
              refine wp_join (ApT B1 lo b nx dv bv { j with next := nx + 1, stop := st + (n : Int), nums := j.nums ++ [nx], texts := j.texts ++ [t] } w11) ?put ?_
              case put =>
                intro K' hMK
                refine wp_region_noPanic (wp_region_heldD (S := (fun Y => Y.cell? ⟨b, 1, none⟩ = some (.slice na j.nums.length nc) ∧ Y.cell? ⟨b, 3, none⟩ = some (.slice ta j.texts.length tc))) [18, 21] (by kernel_rfl) ?hS26r16n0 (fun hHeld => ?hR26r16n0))
                case hS26r16n0 => ((try dsimp only); (exact ⟨d1, d3⟩))
                refine wpAnyD_take (i := 0) (v := ?v26r16n0q1) rfl (by kernel_rfl) (by kernel_rfl) (by kernel_rfl) (fun _ _ _ h => h) (Or.inl ⟨by kernel_rfl, ?hy26r16n0q1⟩) (by assumption) (by kernel_rfl) ?hr26r16n0q1
                case hy26r16n0q1 => (intro w hSw; (try dsimp only at hSw); (obtain ⟨d1, d3⟩ := hSw); first | (go_simp; done) | (go_simp; with_reducible rfl))
                refine wpAnyD_takeY (i := 1) (v := ?v26r16n0q2) rfl (by kernel_rfl) (by kernel_rfl) (by kernel_rfl) (fun _ _ _ h => h) (Or.inl ⟨by kernel_rfl, ?hy26r16n0q2⟩) (by assumption) (by kernel_rfl) ?hr26r16n0q2
                case hy26r16n0q2 => (intro w; first | (go_simp; done) | (go_simp; with_reducible rfl))
                refine wpAnyD_take (i := 2) (v := ?v26r16n0q3) rfl (by kernel_rfl) (by kernel_rfl) (by kernel_rfl) (fun _ _ _ h => h) (Or.inl ⟨by kernel_rfl, ?hy26r16n0q3⟩) (by assumption) (by kernel_rfl) ?hr26r16n0q3
                case hy26r16n0q3 => (intro w hSw; (try dsimp only at hSw); (obtain ⟨d1, d3⟩ := hSw); first | (go_simp; done) | (go_simp; with_reducible rfl))
                refine wpAnyD_take (i := 3) (v := ?v26r16n0q4) rfl (by kernel_rfl) (by kernel_rfl) (by kernel_rfl) (fun _ _ _ h => h) (Or.inl ⟨by kernel_rfl, ?hy26r16n0q4⟩) (by assumption) (by kernel_rfl) ?hr26r16n0q4
                case hy26r16n0q4 => (intro w hSw; (try dsimp only at hSw); (obtain ⟨d1, d3⟩ := hSw); first | (go_simp; done) | (go_simp; with_reducible rfl))
                refine wpAnyD_take (i := 4) (v := ?v26r16n0q5) rfl (by kernel_rfl) (by kernel_rfl) (by kernel_rfl) (fun _ _ _ h => h) (Or.inl ⟨by kernel_rfl, ?hy26r16n0q5⟩) (by assumption) (by kernel_rfl) ?hr26r16n0q5
                case hy26r16n0q5 => (intro w hSw; (try dsimp only at hSw); (obtain ⟨d1, d3⟩ := hSw); first | (go_simp; done) | (go_simp; with_reducible rfl))
                refine wpAnyD_take (i := 5) (v := ?v26r16n0q6) rfl (by kernel_rfl) (by kernel_rfl) (by kernel_rfl) (fun _ _ _ h => h) (Or.inl ⟨by kernel_rfl, ?hy26r16n0q6⟩) (by assumption) (by kernel_rfl) ?hr26r16n0q6
                case hy26r16n0q6 => (intro w hSw; (try dsimp only at hSw); (obtain ⟨d1, d3⟩ := hSw); first | (go_simp; done) | (go_simp; with_reducible rfl))
                refine wpAnyD_take (i := 6) (v := ?v26r16n0q7) rfl (by kernel_rfl) (by kernel_rfl) (by kernel_rfl) (fun _ _ _ h => h) (Or.inl ⟨by kernel_rfl, ?hy26r16n0q7⟩) (by assumption) (by kernel_rfl) ?hr26r16n0q7
                case hy26r16n0q7 => (intro w hSw; (try dsimp only at hSw); (obtain ⟨d1, d3⟩ := hSw); first | (go_simp; done) | (go_simp; with_reducible rfl))
                refine wpAnyD_take (i := 9) (v := ?v26r16n0q8) rfl (by kernel_rfl) (by kernel_rfl) (by kernel_rfl) (fun _ _ _ h => h) (Or.inl ⟨by kernel_rfl, ?hy26r16n0q8⟩) (by assumption) (by kernel_rfl) ?hr26r16n0q8
                case hy26r16n0q8 => (intro w hSw; (try dsimp only at hSw); (obtain ⟨d1, d3⟩ := hSw); first | (go_simp; done) | (go_simp; with_reducible rfl))
                refine wpAnyD_take (i := 10) (v := ?v26r16n0q9) rfl (by kernel_rfl) (by kernel_rfl) (by kernel_rfl) (fun _ _ _ h => h) (Or.inl ⟨by kernel_rfl, ?hy26r16n0q9⟩) (by assumption) (by kernel_rfl) ?hr26r16n0q9
                case hy26r16n0q9 => (intro w hSw; (try dsimp only at hSw); (obtain ⟨d1, d3⟩ := hSw); first | (go_simp; done) | (go_simp; with_reducible rfl))
                refine wpAnyD_take (i := 11) (v := ?v26r16n0q10) rfl (by kernel_rfl) (by kernel_rfl) (by kernel_rfl) (fun _ _ _ h => h) (Or.inl ⟨by kernel_rfl, ?hy26r16n0q10⟩) (by assumption) (by kernel_rfl) ?hr26r16n0q10
                case hy26r16n0q10 => (intro w hSw; (try dsimp only at hSw); (obtain ⟨d1, d3⟩ := hSw); first | (go_simp; done) | (go_simp; with_reducible rfl))
                refine wpAnyD_take (i := 12) (v := ?v26r16n0q11) rfl (by kernel_rfl) (by kernel_rfl) (by kernel_rfl) (fun _ _ _ h => h) (Or.inl ⟨by kernel_rfl, ?hy26r16n0q11⟩) (by assumption) (by kernel_rfl) ?hr26r16n0q11
                case hy26r16n0q11 => (intro w hSw; (try dsimp only at hSw); (obtain ⟨d1, d3⟩ := hSw); first | (go_simp; done) | (go_simp; with_reducible rfl))
                refine wpAnyD_take (i := 13) (v := ?v26r16n0q12) rfl (by kernel_rfl) (by kernel_rfl) (by kernel_rfl) (fun _ _ _ h => h) (Or.inl ⟨by kernel_rfl, ?hy26r16n0q12⟩) (by assumption) (by kernel_rfl) ?hr26r16n0q12
                case hy26r16n0q12 => (intro w hSw; (try dsimp only at hSw); (obtain ⟨d1, d3⟩ := hSw); first | (go_simp; done) | (go_simp; with_reducible rfl))
                refine wpAnyD_ready (rs := [7, 14]) (by kernel_rfl) (by simp) (AllReadyD.cons rfl (by kernel_rfl) (fun K hK => ?hc26r16n0q13) (AllReadyD.cons rfl (by kernel_rfl) (fun K hK => ?hc26r16n0q14) AllReadyD.nil))
                case' hc26r16n0q13 =>
                  go_simp
                  ((first | refine intro_alloc (fun X1 hBX hL85 => ?_) | refine intro_alloc_drew (fun X1 hBX hL85 => ?_)); (first | (have hO2 := hO.below hBX) | (have hO2 := (hO.below (Below.refl _ _).drew).below hBX)); (first | (have hL92 := below_push hBX hL92) | skip); have hO := hO2; clear hO2 hBX; (try dsimp only))
                  refine hK.out _ _ ?hs26r16n0q13 (fun hHeld26r16n0q13 => ?ht26r16n0q13)
                  case hs26r16n0q13 => ((try dsimp only); (exact hO.cells))
                  clear hHeld hK
                  have hHeld := hHeld26r16n0q13
                  clear hHeld26r16n0q13
                  refine wpAnyD_ready (rs := [8, 14]) (by kernel_rfl) (by simp) (AllReadyD.cons rfl (by kernel_rfl) (fun K hK => ?hc26r16n0q15) (AllReadyD.cons rfl (by kernel_rfl) (fun K hK => ?hc26r16n0q16) AllReadyD.nil))
                  case' hc26r16n0q15 =>
                    (refine step_append_rd _ rfl (.tmp 83) (.tmp 85) rfl slInts lo _ _ _ rfl hO.mid.rn _ _ _ _ rfl (rd_lit1 hL85) (by intro u hu; simp at hu; subst hu; rfl) (by unfold maxLen; omega) (by omega) hO.low ?_; intro v86 w86 ho86 hg86 hd86 hnl86; obtain ⟨a86, c86, rfl, _, _⟩ := (Rd.of_own ho86).form; (first | (have hL92 := grown_other hO.mid.rn hg86 hL92 (by decide)) | skip); have hO2 := hO.push_n ho86 hg86 hd86 (by omega); have hO := hO2; have f1' := hO.free 1; have f3' := hO.free 3; have d1 := hO.cells.1; have d3 := hO.cells.2; clear hO2 ho86 hg86 hd86 hnl86; (try dsimp only))
                    refine hK.out _ _ ?hs26r16n0q15 (fun hHeld26r16n0q15 => ?ht26r16n0q15)
                    case hs26r16n0q15 => ((try dsimp only); (exact hO.cells))
                    clear hHeld hK
                    have hHeld := hHeld26r16n0q15
                    clear hHeld26r16n0q15
                    refine wpAnyD_ready (rs := [14]) (by kernel_rfl) (by simp) (AllReadyD.cons rfl (by kernel_rfl) (fun K hK => ?hc26r16n0q17) AllReadyD.nil)
                    go_simp
                    ((first | refine intro_alloc (fun X1 hBX hL92 => ?_) | refine intro_alloc_drew (fun X1 hBX hL92 => ?_)); (first | (have hO2 := hO.below hBX) | (have hO2 := (hO.below (Below.refl _ _).drew).below hBX)); (first | (have hL85 := below_push hBX hL85) | skip); have hO := hO2; clear hO2 hBX; (try dsimp only))
                    refine hK.out _ _ ?hs26r16n0q17 (fun hHeld26r16n0q17 => ?ht26r16n0q17)
                    case hs26r16n0q17 => ((try dsimp only); (exact hO.cells))
                    clear hHeld hK
                    have hHeld := hHeld26r16n0q17
                    clear hHeld26r16n0q17
                    refine wpAnyD_ready (rs := [15]) (by kernel_rfl) (by simp) (AllReadyD.cons rfl (by kernel_rfl) (fun K hK => ?hc26r16n0q18) AllReadyD.nil)
                    (refine step_append_rd _ rfl (.tmp 90) (.tmp 92) rfl slStrs lo _ _ _ rfl hO.mid.rt _ _ _ _ rfl (rd_lit1 hL92) (by intro u hu; simp at hu; subst hu; rfl) (by unfold maxLen; omega) (by omega) hO.low ?_; intro v93 w93 ho93 hg93 hd93 hnl93; obtain ⟨a93, c93, rfl, _, _⟩ := (Rd.of_own ho93).form; (first | (have hL85 := grown_other hO.mid.rt hg93 hL85 (by decide)) | skip); have hO2 := hO.push_t ho93 hg93 hd93 (by omega); have hO := hO2; have f1' := hO.free 1; have f3' := hO.free 3; have d1 := hO.cells.1; have d3 := hO.cells.2; clear hO2 ho93 hg93 hd93 hnl93; (try dsimp only))
                    refine hK.out _ _ ?hs26r16n0q18 (fun hHeld26r16n0q18 => ?ht26r16n0q18)
                    case hs26r16n0q18 => ((try dsimp only); (exact hO.cells))
                    clear hHeld hK
                    have hHeld := hHeld26r16n0q18
                    clear hHeld26r16n0q18
                    refine wpAnyD_take (i := 16) (v := ?v26r16n0q19) rfl (by kernel_rfl) (by kernel_rfl) (by kernel_rfl) (fun _ _ _ h => h) (Or.inl ⟨by kernel_rfl, ?hy26r16n0q19⟩) (by assumption) (by kernel_rfl) ?hr26r16n0q19
                    case hy26r16n0q19 => (intro w hSw; (try dsimp only at hSw); (obtain ⟨d1, d3⟩ := hSw); first | (go_simp; done) | (go_simp; with_reducible rfl))
                    refine wpAnyD_take (i := 17) (v := ?v26r16n0q20) rfl (by kernel_rfl) (by kernel_rfl) (by kernel_rfl) (fun _ _ _ h => h) (Or.inl ⟨by kernel_rfl, ?hy26r16n0q20⟩) (by assumption) (by kernel_rfl) ?hr26r16n0q20
                    case hy26r16n0q20 => (intro w hSw; (try dsimp only at hSw); (obtain ⟨d1, d3⟩ := hSw); first | (go_simp; done) | (go_simp; with_reducible rfl))
                    refine wpAnyD_ready (rs := [18]) (by kernel_rfl) (by simp) (AllReadyD.last rfl (by kernel_rfl) (fun K hK => ?hc26r16n0q21) AllReadyD.nil)
                    go_simp
                    refine hK.out _ _ ?_
                    clear hHeld hK
                    have hHeld := True.intro
                    refine wpAnyH_take (i := 19) (v := ?v26r16n0q22) rfl (by kernel_rfl) (by kernel_rfl) (by kernel_rfl) (fun _ _ _ h => h) (Or.inl ⟨by kernel_rfl, ?hy26r16n0q22⟩) (by assumption) ?hr26r16n0q22
                    case hy26r16n0q22 => (intro w hSw; (try dsimp only at hSw); skip; first | (go_simp; done) | (go_simp; with_reducible rfl))
                    refine wpAnyH_take (i := 20) (v := ?v26r16n0q23) rfl (by kernel_rfl) (by kernel_rfl) (by kernel_rfl) (fun _ _ _ h => h) (Or.inl ⟨by kernel_rfl, ?hy26r16n0q23⟩) (by assumption) ?hr26r16n0q23
                    case hy26r16n0q23 => (intro w hSw; (try dsimp only at hSw); skip; first | (go_simp; done) | (go_simp; with_reducible rfl))
                    refine wpAnyH_ready (rs := [21]) (by kernel_rfl) (by simp) (AllReadyH.cons rfl (fun K hK => ?hc26r16n0q24) AllReadyH.nil)
                    go_simp
                    refine hK.out _ _ ?hs26r16n0q24 (fun hHeld26r16n0q24 => ?ht26r16n0q24)
                    case hs26r16n0q24 => ((try dsimp only); try exact True.intro)
                    clear hHeld hK
                    have hHeld := hHeld26r16n0q24
                    clear hHeld26r16n0q24
                    refine wpAnyH_done (by kernel_rfl) ?_ _
                    clear hHeld
                    refine NoPanic.normal ?_
                  case' hc26r16n0q16 =>
                    go_simp
                    ((first | refine intro_alloc (fun X1 hBX hL92 => ?_) | refine intro_alloc_drew (fun X1 hBX hL92 => ?_)); (first | (have hO2 := hO.below hBX) | (have hO2 := (hO.below (Below.refl _ _).drew).below hBX)); (first | (have hL85 := below_push hBX hL85) | skip); have hO := hO2; clear hO2 hBX; (try dsimp only))
                    refine hK.out _ _ ?hs26r16n0q16 (fun hHeld26r16n0q16 => ?ht26r16n0q16)
                    case hs26r16n0q16 => ((try dsimp only); (exact hO.cells))
                    clear hHeld hK
                    have hHeld := hHeld26r16n0q16
                    clear hHeld26r16n0q16
                    refine wpAnyD_ready (rs := [8]) (by kernel_rfl) (by simp) (AllReadyD.cons rfl (by kernel_rfl) (fun K hK => ?hc26r16n0q25) AllReadyD.nil)
                    (refine step_append_rd _ rfl (.tmp 83) (.tmp 85) rfl slInts lo _ _ _ rfl hO.mid.rn _ _ _ _ rfl (rd_lit1 hL85) (by intro u hu; simp at hu; subst hu; rfl) (by unfold maxLen; omega) (by omega) hO.low ?_; intro v86 w86 ho86 hg86 hd86 hnl86; obtain ⟨a86, c86, rfl, _, _⟩ := (Rd.of_own ho86).form; (first | (have hL92 := grown_other hO.mid.rn hg86 hL92 (by decide)) | skip); have hO2 := hO.push_n ho86 hg86 hd86 (by omega); have hO := hO2; have f1' := hO.free 1; have f3' := hO.free 3; have d1 := hO.cells.1; have d3 := hO.cells.2; clear hO2 ho86 hg86 hd86 hnl86; (try dsimp only))
                    refine hK.out _ _ ?hs26r16n0q25 (fun hHeld26r16n0q25 => ?ht26r16n0q25)
                    case hs26r16n0q25 => ((try dsimp only); (exact hO.cells))
                    clear hHeld hK
                    have hHeld := hHeld26r16n0q25
                    clear hHeld26r16n0q25
                    refine wpAnyD_ready (rs := [15]) (by kernel_rfl) (by simp) (AllReadyD.cons rfl (by kernel_rfl) (fun K hK => ?hc26r16n0q26) AllReadyD.nil)
                    (refine step_append_rd _ rfl (.tmp 90) (.tmp 92) rfl slStrs lo _ _ _ rfl hO.mid.rt _ _ _ _ rfl (rd_lit1 hL92) (by intro u hu; simp at hu; subst hu; rfl) (by unfold maxLen; omega) (by omega) hO.low ?_; intro v93 w93 ho93 hg93 hd93 hnl93; obtain ⟨a93, c93, rfl, _, _⟩ := (Rd.of_own ho93).form; (first | (have hL85 := grown_other hO.mid.rt hg93 hL85 (by decide)) | skip); have hO2 := hO.push_t ho93 hg93 hd93 (by omega); have hO := hO2; have f1' := hO.free 1; have f3' := hO.free 3; have d1 := hO.cells.1; have d3 := hO.cells.2; clear hO2 ho93 hg93 hd93 hnl93; (try dsimp only))
                    refine hK.out _ _ ?hs26r16n0q26 (fun hHeld26r16n0q26 => ?ht26r16n0q26)
                    case hs26r16n0q26 => ((try dsimp only); (exact hO.cells))
                    clear hHeld hK
                    have hHeld := hHeld26r16n0q26
                    clear hHeld26r16n0q26
                    refine wpAnyD_take (i := 16) (v := ?v26r16n0q27) rfl (by kernel_rfl) (by kernel_rfl) (by kernel_rfl) (fun _ _ _ h => h) (Or.inl ⟨by kernel_rfl, ?hy26r16n0q27⟩) (by assumption) (by kernel_rfl) ?hr26r16n0q27
                    case hy26r16n0q27 => (intro w hSw; (try dsimp only at hSw); (obtain ⟨d1, d3⟩ := hSw); first | (go_simp; done) | (go_simp; with_reducible rfl))
                    refine wpAnyD_take (i := 17) (v := ?v26r16n0q28) rfl (by kernel_rfl) (by kernel_rfl) (by kernel_rfl) (fun _ _ _ h => h) (Or.inl ⟨by kernel_rfl, ?hy26r16n0q28⟩) (by assumption) (by kernel_rfl) ?hr26r16n0q28
                    case hy26r16n0q28 => (intro w hSw; (try dsimp only at hSw); (obtain ⟨d1, d3⟩ := hSw); first | (go_simp; done) | (go_simp; with_reducible rfl))
                    refine wpAnyD_ready (rs := [18]) (by kernel_rfl) (by simp) (AllReadyD.last rfl (by kernel_rfl) (fun K hK => ?hc26r16n0q29) AllReadyD.nil)
                    go_simp
                    refine hK.out _ _ ?_
                    clear hHeld hK
                    have hHeld := True.intro
                    refine wpAnyH_take (i := 19) (v := ?v26r16n0q30) rfl (by kernel_rfl) (by kernel_rfl) (by kernel_rfl) (fun _ _ _ h => h) (Or.inl ⟨by kernel_rfl, ?hy26r16n0q30⟩) (by assumption) ?hr26r16n0q30
                    case hy26r16n0q30 => (intro w hSw; (try dsimp only at hSw); skip; first | (go_simp; done) | (go_simp; with_reducible rfl))
                    refine wpAnyH_take (i := 20) (v := ?v26r16n0q31) rfl (by kernel_rfl) (by kernel_rfl) (by kernel_rfl) (fun _ _ _ h => h) (Or.inl ⟨by kernel_rfl, ?hy26r16n0q31⟩) (by assumption) ?hr26r16n0q31
                    case hy26r16n0q31 => (intro w hSw; (try dsimp only at hSw); skip; first | (go_simp; done) | (go_simp; with_reducible rfl))
                    refine wpAnyH_ready (rs := [21]) (by kernel_rfl) (by simp) (AllReadyH.cons rfl (fun K hK => ?hc26r16n0q32) AllReadyH.nil)
                    go_simp
                    refine hK.out _ _ ?hs26r16n0q32 (fun hHeld26r16n0q32 => ?ht26r16n0q32)
                    case hs26r16n0q32 => ((try dsimp only); try exact True.intro)
                    clear hHeld hK
                    have hHeld := hHeld26r16n0q32
                    clear hHeld26r16n0q32
                    refine wpAnyH_done (by kernel_rfl) ?_ _
                    clear hHeld
                    refine NoPanic.normal ?_
                case' hc26r16n0q14 =>
                  go_simp
                  ((first | refine intro_alloc (fun X1 hBX hL92 => ?_) | refine intro_alloc_drew (fun X1 hBX hL92 => ?_)); (first | (have hO2 := hO.below hBX) | (have hO2 := (hO.below (Below.refl _ _).drew).below hBX)); (first | (have hL85 := below_push hBX hL85) | skip); have hO := hO2; clear hO2 hBX; (try dsimp only))
                  refine hK.out _ _ ?hs26r16n0q14 (fun hHeld26r16n0q14 => ?ht26r16n0q14)
                  case hs26r16n0q14 => ((try dsimp only); (exact hO.cells))
                  clear hHeld hK
                  have hHeld := hHeld26r16n0q14
                  clear hHeld26r16n0q14
                  refine wpAnyD_ready (rs := [7]) (by kernel_rfl) (by simp) (AllReadyD.cons rfl (by kernel_rfl) (fun K hK => ?hc26r16n0q33) AllReadyD.nil)
                  go_simp
                  ((first | refine intro_alloc (fun X1 hBX hL85 => ?_) | refine intro_alloc_drew (fun X1 hBX hL85 => ?_)); (first | (have hO2 := hO.below hBX) | (have hO2 := (hO.below (Below.refl _ _).drew).below hBX)); (first | (have hL92 := below_push hBX hL92) | skip); have hO := hO2; clear hO2 hBX; (try dsimp only))
                  refine hK.out _ _ ?hs26r16n0q33 (fun hHeld26r16n0q33 => ?ht26r16n0q33)
                  case hs26r16n0q33 => ((try dsimp only); (exact hO.cells))
                  clear hHeld hK
                  have hHeld := hHeld26r16n0q33
                  clear hHeld26r16n0q33
                  refine wpAnyD_ready (rs := [8]) (by kernel_rfl) (by simp) (AllReadyD.cons rfl (by kernel_rfl) (fun K hK => ?hc26r16n0q34) AllReadyD.nil)
                  (refine step_append_rd _ rfl (.tmp 83) (.tmp 85) rfl slInts lo _ _ _ rfl hO.mid.rn _ _ _ _ rfl (rd_lit1 hL85) (by intro u hu; simp at hu; subst hu; rfl) (by unfold maxLen; omega) (by omega) hO.low ?_; intro v86 w86 ho86 hg86 hd86 hnl86; obtain ⟨a86, c86, rfl, _, _⟩ := (Rd.of_own ho86).form; (first | (have hL92 := grown_other hO.mid.rn hg86 hL92 (by decide)) | skip); have hO2 := hO.push_n ho86 hg86 hd86 (by omega); have hO := hO2; have f1' := hO.free 1; have f3' := hO.free 3; have d1 := hO.cells.1; have d3 := hO.cells.2; clear hO2 ho86 hg86 hd86 hnl86; (try dsimp only))
                  refine hK.out _ _ ?hs26r16n0q34 (fun hHeld26r16n0q34 => ?ht26r16n0q34)
                  case hs26r16n0q34 => ((try dsimp only); (exact hO.cells))
                  clear hHeld hK
                  have hHeld := hHeld26r16n0q34
                  clear hHeld26r16n0q34
                  refine wpAnyD_ready (rs := [15]) (by kernel_rfl) (by simp) (AllReadyD.cons rfl (by kernel_rfl) (fun K hK => ?hc26r16n0q35) AllReadyD.nil)
                  (refine step_append_rd _ rfl (.tmp 90) (.tmp 92) rfl slStrs lo _ _ _ rfl hO.mid.rt _ _ _ _ rfl (rd_lit1 hL92) (by intro u hu; simp at hu; subst hu; rfl) (by unfold maxLen; omega) (by omega) hO.low ?_; intro v93 w93 ho93 hg93 hd93 hnl93; obtain ⟨a93, c93, rfl, _, _⟩ := (Rd.of_own ho93).form; (first | (have hL85 := grown_other hO.mid.rt hg93 hL85 (by decide)) | skip); have hO2 := hO.push_t ho93 hg93 hd93 (by omega); have hO := hO2; have f1' := hO.free 1; have f3' := hO.free 3; have d1 := hO.cells.1; have d3 := hO.cells.2; clear hO2 ho93 hg93 hd93 hnl93; (try dsimp only))
                  refine hK.out _ _ ?hs26r16n0q35 (fun hHeld26r16n0q35 => ?ht26r16n0q35)
                  case hs26r16n0q35 => ((try dsimp only); (exact hO.cells))
                  clear hHeld hK
                  have hHeld := hHeld26r16n0q35
                  clear hHeld26r16n0q35
                  refine wpAnyD_take (i := 16) (v := ?v26r16n0q36) rfl (by kernel_rfl) (by kernel_rfl) (by kernel_rfl) (fun _ _ _ h => h) (Or.inl ⟨by kernel_rfl, ?hy26r16n0q36⟩) (by assumption) (by kernel_rfl) ?hr26r16n0q36
                  case hy26r16n0q36 => (intro w hSw; (try dsimp only at hSw); (obtain ⟨d1, d3⟩ := hSw); first | (go_simp; done) | (go_simp; with_reducible rfl))
                  refine wpAnyD_take (i := 17) (v := ?v26r16n0q37) rfl (by kernel_rfl) (by kernel_rfl) (by kernel_rfl) (fun _ _ _ h => h) (Or.inl ⟨by kernel_rfl, ?hy26r16n0q37⟩) (by assumption) (by kernel_rfl) ?hr26r16n0q37
                  case hy26r16n0q37 => (intro w hSw; (try dsimp only at hSw); (obtain ⟨d1, d3⟩ := hSw); first | (go_simp; done) | (go_simp; with_reducible rfl))
                  refine wpAnyD_ready (rs := [18]) (by kernel_rfl) (by simp) (AllReadyD.last rfl (by kernel_rfl) (fun K hK => ?hc26r16n0q38) AllReadyD.nil)
                  go_simp
                  refine hK.out _ _ ?_
                  clear hHeld hK
                  have hHeld := True.intro
                  refine wpAnyH_take (i := 19) (v := ?v26r16n0q39) rfl (by kernel_rfl) (by kernel_rfl) (by kernel_rfl) (fun _ _ _ h => h) (Or.inl ⟨by kernel_rfl, ?hy26r16n0q39⟩) (by assumption) ?hr26r16n0q39
                  case hy26r16n0q39 => (intro w hSw; (try dsimp only at hSw); skip; first | (go_simp; done) | (go_simp; with_reducible rfl))
                  refine wpAnyH_take (i := 20) (v := ?v26r16n0q40) rfl (by kernel_rfl) (by kernel_rfl) (by kernel_rfl) (fun _ _ _ h => h) (Or.inl ⟨by kernel_rfl, ?hy26r16n0q40⟩) (by assumption) ?hr26r16n0q40
                  case hy26r16n0q40 => (intro w hSw; (try dsimp only at hSw); skip; first | (go_simp; done) | (go_simp; with_reducible rfl))
                  refine wpAnyH_ready (rs := [21]) (by kernel_rfl) (by simp) (AllReadyH.cons rfl (fun K hK => ?hc26r16n0q41) AllReadyH.nil)
                  go_simp
                  refine hK.out _ _ ?hs26r16n0q41 (fun hHeld26r16n0q41 => ?ht26r16n0q41)
                  case hs26r16n0q41 => ((try dsimp only); try exact True.intro)
                  clear hHeld hK
                  have hHeld := hHeld26r16n0q41
                  clear hHeld26r16n0q41
                  refine wpAnyH_done (by kernel_rfl) ?_ _
                  clear hHeld
                  refine NoPanic.normal ?_
                all_goals
                  (try dsimp only [Exit.inBlock, Exit.then])
                  first
                  | exact hMK _ _ ⟨rfl, rfl, by kernel_rfl, hO.fin HBB.out.2⟩
                  | exact hMK _ _ ⟨rfl, rfl, by kernel_rfl, hO.fin' HBB.out.2⟩
              rintro ⟨tF, dF⟩ W5 ⟨h99, hds, e6, nv5, tv5, hj5, hn5, ht5, hT5⟩
              simp only at h99 hds e6
              subst hds
              (try dsimp only [Exit.then])
              rw [frame99 tF [] h99, e6]
              clear h99 e6 hO d1 d3 f1' f3'
              go_wp2
              refine bodyPost_ret (P := Tryz.prog) (fn := Tryz.f26) (results_tmp2 rfl _ _ _) (by kernel_rfl) ?_
              rw [HZ3.out]
              have hup : ∀ x, B1 x ∨ w11.heap.size ≤ x → B x ∨ w.heap.size ≤ x := fun x hx => by
                rcases hx with hx | hx
                · exact .inl (HBB.out.1 x hx).1
                · exact .inr (by omega)
              exact ⟨by kernel_rfl, ⟨b, nv5, bv, tv5, rfl, hj5, .inl HB.out.1, fun x hx => hup x (hn5 x hx), fun x hx => .inl (HB.out.2.2.1 x hx), fun x hx => hup x (ht5 x hx)⟩, HIN.out.2.1.turned hT5 (fun x h1 h2 h3 => by
                have := (HBB.out.1 x h3).2
                omega), HIN.out.2.2.trans (hT5.mono (fun x _ hx => .inr (HBB.out.1 x hx).1))⟩
          · have g1 : (er != 0) = true := by simp [h0]
            have g2 : (er == 0) = false := by simp [h0]
            have hz := HZ2.out
            rw [if_pos h0] at hz
            have HZ3 := hidep hz
            have d6 := hin11.cells.2.2.2.2.2.2
            have f6 := box_frozen hin11.box 6
            clear hz h0 HZ HZ2 HW
            go_wp2
            refine bodyPost_ret (P := Tryz.prog) (fn := Tryz.f26) (results_tmp2 rfl _ _ _) (by kernel_rfl) ?_
            rw [HZ3.out]
            have hsh := hin11.shut true
            exact ⟨by kernel_rfl, ⟨b, nv, bv, tv, rfl, hsh, .inl HB.out.1, fun x hx => .inl (HB.out.2.1 x hx), fun x hx => .inl (HB.out.2.2.1 x hx), fun x hx => .inl (HB.out.2.2.2 x hx)⟩, hd11.turned ((Turned.refl (fun x => x = b) _).setCell ⟨b, 6, none⟩ _ (.inr rfl)) (fun x h1 h2 h3 => by
              have := hin11.hb
              omega), hT.setCell ⟨b, 6, none⟩ _ (.inr (.inr HB.out.1))⟩
end Go.Proofs.YtipbkdlekanlmaaGreatDoor
