/- Journal: the reference's Append. -/
import Derived.Test.YtipbkdlekanlmaaGreatDoorZr29
import Derived.Test.YtipbkdlekanlmaaGreatDoorZr03
import Derived.Test.YtipbkdlekanlmaaGreatDoorZr31
namespace Go.Proofs.YtipbkdlekanlmaaGreatDoor
open Go.RowKit Go.Lab Go.Disk Go.Jn
attribute [local go_sem] Oper.semAt_some
set_option maxRecDepth 100000
theorem range_map153 (f : Nat → Value) : (List.range 153).map f = [f 0, f 1, f 2, f 3, f 4, f 5, f 6, f 7, f 8, f 9, f 10, f 11, f 12, f 13, f 14, f 15, f 16, f 17, f 18, f 19, f 20, f 21, f 22, f 23, f 24, f 25, f 26, f 27, f 28, f 29, f 30, f 31, f 32, f 33, f 34, f 35, f 36, f 37, f 38, f 39, f 40, f 41, f 42, f 43, f 44, f 45, f 46, f 47, f 48, f 49, f 50, f 51, f 52, f 53, f 54, f 55, f 56, f 57, f 58, f 59, f 60, f 61, f 62, f 63, f 64, f 65, f 66, f 67, f 68, f 69, f 70, f 71, f 72, f 73, f 74, f 75, f 76, f 77, f 78, f 79, f 80, f 81, f 82, f 83, f 84, f 85, f 86, f 87, f 88, f 89, f 90, f 91, f 92, f 93, f 94, f 95, f 96, f 97, f 98, f 99, f 100, f 101, f 102, f 103, f 104, f 105, f 106, f 107, f 108, f 109, f 110, f 111, f 112, f 113, f 114, f 115, f 116, f 117, f 118, f 119, f 120, f 121, f 122, f 123, f 124, f 125, f 126, f 127, f 128, f 129, f 130, f 131, f 132, f 133, f 134, f 135, f 136, f 137, f 138, f 139, f 140, f 141, f 142, f 143, f 144, f 145, f 146, f 147, f 148, f 149, f 150, f 151, f 152] := rfl
theorem frame153 (t : Array Value) (ds : List Deferred) (h : t.size = 153) : ({ tmps := t, defers := ds } : Act) = { tmps := #[slot t 0, slot t 1, slot t 2, slot t 3, slot t 4, slot t 5, slot t 6, slot t 7, slot t 8, slot t 9, slot t 10, slot t 11, slot t 12, slot t 13, slot t 14, slot t 15, slot t 16, slot t 17, slot t 18, slot t 19, slot t 20, slot t 21, slot t 22, slot t 23, slot t 24, slot t 25, slot t 26, slot t 27, slot t 28, slot t 29, slot t 30, slot t 31, slot t 32, slot t 33, slot t 34, slot t 35, slot t 36, slot t 37, slot t 38, slot t 39, slot t 40, slot t 41, slot t 42, slot t 43, slot t 44, slot t 45, slot t 46, slot t 47, slot t 48, slot t 49, slot t 50, slot t 51, slot t 52, slot t 53, slot t 54, slot t 55, slot t 56, slot t 57, slot t 58, slot t 59, slot t 60, slot t 61, slot t 62, slot t 63, slot t 64, slot t 65, slot t 66, slot t 67, slot t 68, slot t 69, slot t 70, slot t 71, slot t 72, slot t 73, slot t 74, slot t 75, slot t 76, slot t 77, slot t 78, slot t 79, slot t 80, slot t 81, slot t 82, slot t 83, slot t 84, slot t 85, slot t 86, slot t 87, slot t 88, slot t 89, slot t 90, slot t 91, slot t 92, slot t 93, slot t 94, slot t 95, slot t 96, slot t 97, slot t 98, slot t 99, slot t 100, slot t 101, slot t 102, slot t 103, slot t 104, slot t 105, slot t 106, slot t 107, slot t 108, slot t 109, slot t 110, slot t 111, slot t 112, slot t 113, slot t 114, slot t 115, slot t 116, slot t 117, slot t 118, slot t 119, slot t 120, slot t 121, slot t 122, slot t 123, slot t 124, slot t 125, slot t 126, slot t 127, slot t 128, slot t 129, slot t 130, slot t 131, slot t 132, slot t 133, slot t 134, slot t 135, slot t 136, slot t 137, slot t 138, slot t 139, slot t 140, slot t 141, slot t 142, slot t 143, slot t 144, slot t 145, slot t 146, slot t 147, slot t 148, slot t 149, slot t 150, slot t 151, slot t 152], defers := ds } := by
  have e : t = ((List.range 153).map (slot t)).toArray := by
    apply Array.ext
    · simp [h]
    · intro i h1 h2
      simp [slot, Array.getD, h1]
  rw [range_map153] at e
  exact congrArg (fun x => ({ tmps := x, defers := ds } : Act)) e
theorem RDiskAt.turned {T : Nat → Prop} {w w' : World} {lo hi : Nat} {p : Value} {D : Dk} (h : RDiskAt w lo hi p D) (hT : Turned T w w') (hd : ∀ x, lo ≤ x → x < hi → ¬ T x) : RDiskAt w' lo hi p D := by
  obtain ⟨b, g, c, hp, h⟩ := h
  have hz := h.hi
  have e : ∀ k, lo ≤ k ∧ k < hi → w'.heap[k]? = w.heap[k]? := fun k hk => hT.block k (by omega) (hd k hk.1 hk.2)
  exact ⟨b, g, c, hp, h.hb, h.hg, Nat.le_trans hz hT.size, h.cap, h.top.of_block (e _ h.hb), h.row.of_block (e _ h.hg), h.ok, h.clean⟩
def RWrI (D : Dk) (at' : Int) (l : List ByteArray) (w : World) (dlo dhi : Nat) (dv : Value) (iv : Value) (wr : World) : Prop := ∃ (i : Nat) (E : Dk), i ≤ l.length ∧ iv = .int .i64 (i : Nat) ∧ writesZ D at' l = writesZ E (at' + i) (l.drop i) ∧ RDiskAt wr dlo dhi dv E ∧ Turn dlo dhi w wr
def RChI (D2 : Dk) (at' : Int) (l : List ByteArray) (w : World) (dlo dhi : Nat) (dv : Value) (tv iv : Value) (wr : World) : Prop := ∃ (i : Nat) (bo : Bool), i ≤ l.length ∧ iv = .int .i64 (i : Nat) ∧ tv = .bool bo ∧ checksZ D2 at' l true = checksZ D2 (at' + i) (l.drop i) bo ∧ RDiskAt wr dlo dhi dv D2 ∧ Turn dlo dhi w wr
/-- What stands while the reference's Append puts number and text. -/
structure ApR (B : Nat → Prop) (lo b : Nat) (dv nv bv tv nv' tv' : Value) (j : JZ) (nl : List Int) (tl : List ByteArray) (w0 X : World) : Prop where
  mid : RJMid X lo b dv nv bv tv nv' tv' j nl tl
  tur : Turned B w0 X
  bn : ∀ x, nv'.ownBlock = some x → B x ∨ w0.heap.size ≤ x
  bt : ∀ x, tv'.ownBlock = some x → B x ∨ w0.heap.size ≤ x
section
variable {B : Nat → Prop} {lo b : Nat} {dv nv bv tv nv' tv' : Value} {j : JZ} {nl : List Int} {tl : List ByteArray} {w0 X X' : World}
theorem ApR.below (h : ApR B lo b dv nv bv tv nv' tv' j nl tl w0 X) (hb : Below X.heap.size X X') : ApR B lo b dv nv bv tv nv' tv' j nl tl w0 X' := ⟨h.mid.below hb, h.tur.below hb, h.bn, h.bt⟩
theorem ApR.cells (h : ApR B lo b dv nv bv tv nv' tv' j nl tl w0 X) : X.cell? ⟨b, 1, none⟩ = some nv ∧ X.cell? ⟨b, 2, none⟩ = some tv := ⟨by simp [World.cell?, h.mid.box], by simp [World.cell?, h.mid.box]⟩
theorem ApR.free (h : ApR B lo b dv nv bv tv nv' tv' j nl tl w0 X) (k : Nat) : X.frozen? ⟨b, k, none⟩ = false := box_frozen h.mid.box k
theorem ApR.low (h : ApR B lo b dv nv bv tv nv' tv' j nl tl w0 X) : lo ≤ X.heap.size := by
  have h1 := h.mid.hb
  have h2 := lt_of_block h.mid.box
  omega
theorem ApR.push_n (h : ApR B lo b dv nv bv tv nv' tv' j nl tl w0 X) {v : Value} {x : Int} (ho : X'.ownsRow lo 3 1 v (nl.length + 1) (intsC nl ++ [.int .i64 x])) (hg : X.grownBy X' nv'.ownBlock)
    (hd : v.ownBlock = nv'.ownBlock ∨ v.ownBlock = some X.heap.size) (hl : nl.length + 1 ≤ 10000) : ApR B lo b dv nv bv tv v tv' j (nl ++ [x]) tl w0 X' :=
  ⟨h.mid.push_n ho hg hd hl, h.tur.grownB hg h.bn, fun y hy => by
    rcases hd with hd | hd
    · exact h.bn y (by rw [← hd]; exact hy)
    · rw [hd] at hy
      injection hy with hy
      exact .inr (by rw [← hy]; exact h.tur.size), h.bt⟩
theorem ApR.push_t (h : ApR B lo b dv nv bv tv nv' tv' j nl tl w0 X) {v : Value} {x : ByteArray} (ho : X'.ownsRow lo 9 1 v (tl.length + 1) (strL tl ++ [.string x])) (hg : X.grownBy X' tv'.ownBlock)
    (hd : v.ownBlock = tv'.ownBlock ∨ v.ownBlock = some X.heap.size) (hl : tl.length + 1 ≤ 10000) : ApR B lo b dv nv bv tv nv' v j nl (tl ++ [x]) w0 X' :=
  ⟨h.mid.push_t ho hg hl, h.tur.grownB hg h.bt, h.bn, fun y hy => by
    rcases hd with hd | hd
    · exact h.bt y (by rw [← hd]; exact hy)
    · rw [hd] at hy
      injection hy with hy
      exact .inr (by rw [← hy]; exact h.tur.size)⟩
end
theorem ApR.done1 {B : Nat → Prop} {lo b : Nat} {dv nv bv tv nv' : Value} {j : JZ} {nl : List Int} {tl : List ByteArray} {w0 X : World} (h : ApR B lo b dv nv bv tv nv' tv j nl tl w0 X) (hb : B b) :
    ApR B lo b dv nv' bv tv nv' tv { j with nums := nl, texts := tl } nl tl w0 (X.setCell ⟨b, 1, none⟩ nv') :=
  ⟨h.mid.done1.mid, h.tur.setCell ⟨b, 1, none⟩ _ (.inr hb), h.bn, h.bt⟩
theorem ApR.done2 {B : Nat → Prop} {lo b : Nat} {dv nv bv tv tv' : Value} {j : JZ} {nl : List Int} {tl : List ByteArray} {w0 X : World} (h : ApR B lo b dv nv bv tv nv tv' j nl tl w0 X) (hb : B b) :
    ApR B lo b dv nv bv tv' nv tv' { j with nums := nl, texts := tl } nl tl w0 (X.setCell ⟨b, 2, none⟩ tv') :=
  ⟨h.mid.done2.mid, h.tur.setCell ⟨b, 2, none⟩ _ (.inr hb), h.bn, h.bt⟩
set_option maxHeartbeats 8000000 in
theorem appendR_any (p dv : Value) (j : JZ) (D : Dk) (tx : ByteArray) (w : World) (lo dlo dhi : Nat) (B : Nat → Prop) (hj : RJOn B w lo p dv j) (hd : RDiskAt w dlo dhi dv D) (hlo : dhi ≤ lo) (hts : tx.size ≤ 9000)
    (hs : 0 ≤ j.stop ∧ j.stop ≤ 100000) (hx : 1 ≤ j.next ∧ j.next ≤ 100000) (hl : j.nums.length < 10000 ∧ j.texts.length < 10000) (hk : w.rangeAt 0 0 (u32C ks0)) :
    Calls Tryz.prog 30 #[p, .string tx] w fun e w' => e = .returned (.tuple #[.int .i64 (appendZ j D tx).1, .int .i64 (appendZ j D tx).2.1]) ∧ RJOn (fun x => B x ∨ w.heap.size ≤ x) w' lo p dv (appendZ j D tx).2.2.1 ∧ RDiskAt w' dlo dhi dv (appendZ j D tx).2.2.2 ∧
      Turned (fun x => (dlo ≤ x ∧ x < dhi) ∨ B x) w w' := by
  have hjB := hj.mono (B' := fun x => B x ∨ w.heap.size ≤ x) (fun x hx => .inl hx)
  have hJ := hj.at
  obtain ⟨b, nv, bv, tv, rfl, hin, hBb, hBn, hBv, hBt⟩ := hj
  have HR := hidep (roomR_any _ dv j D w lo dlo dhi hJ hd hs)
  obtain ⟨c0, c1, c2, c3, c4, c5, c6⟩ := hin.cells
  have HB := hidep (And.intro hBb (And.intro hBn (And.intro hBv hBt)))
  have HK := hidep hk
  obtain ⟨p, hp⟩ : ∃ p, p = Value.pointer (some ⟨b, 0, none⟩) := ⟨_, rfl⟩
  have HJ := hidep (And.intro hjB (And.intro hin (And.intro hd (And.intro hJ hp))))
  clear hjB hin hd hJ hk hBb hBn hBv hBt hp
  obtain ⟨cl, hcl⟩ : ∃ cl, cl = j.closed := ⟨_, rfl⟩
  obtain ⟨nx, hnx⟩ : ∃ nx, nx = j.next := ⟨_, rfl⟩
  obtain ⟨st, hst⟩ : ∃ st, st = j.stop := ⟨_, rfl⟩
  rw [← hcl] at c6
  rw [← hnx] at c4 hx
  rw [← hst] at c5 hs
  cases cl with
  | true =>
    have hz : appendZ j D tx = (0, 25, j, D) := by unfold appendZ; rw [if_pos hcl.symm]
    have HZ := hidep hz
    clear hz hcl hnx hst
    go_enter Tryz.func30, Tryz.ntmps30
    go_wp2
    refine bodyPost_ret (P := Tryz.prog) (fn := Tryz.f30) (results_tmp2 rfl _ _ _) (by kernel_rfl) ?_
    rw [HZ.out]
    exact ⟨by kernel_rfl, HJ.out.1, HJ.out.2.2.1, Turned.refl _ _⟩
  | false =>
    have hcf : ¬ j.closed = true := by rw [← hcl]; decide
    by_cases hsz : 8000 < tx.size
    · have hz : appendZ j D tx = (0, 4, j, D) := by unfold appendZ; rw [if_neg hcf, if_pos (.inl hsz)]
      have HZ := hidep hz
      have g1 : (tx.size : Int) > 8000 := by omega
      clear hz hcl hnx hst hcf hsz
      go_enter Tryz.func30, Tryz.ntmps30
      go_wp2
      refine bodyPost_ret (P := Tryz.prog) (fn := Tryz.f30) (results_tmp2 rfl _ _ _) (by kernel_rfl) ?_
      rw [HZ.out]
      exact ⟨by kernel_rfl, HJ.out.1, HJ.out.2.2.1, Turned.refl _ _⟩
    · have g1 : ¬ (tx.size : Int) > 8000 := by omega
      by_cases hnb : 4096 < nx
      · have hz : appendZ j D tx = (0, 4, j, D) := by unfold appendZ; rw [if_neg hcf, if_pos (.inr (by rw [← hnx]; exact hnb))]
        have HZ := hidep hz
        have g2 : nx > 4096 := hnb
        clear hz hcl hnx hst hcf hsz hnb
        go_enter Tryz.func30, Tryz.ntmps30
        go_wp2
        refine bodyPost_ret (P := Tryz.prog) (fn := Tryz.f30) (results_tmp2 rfl _ _ _) (by kernel_rfl) ?_
        rw [HZ.out]
        exact ⟨by kernel_rfl, HJ.out.1, HJ.out.2.2.1, Turned.refl _ _⟩
      · have g2 : ¬ nx > 4096 := hnb
        obtain ⟨m, hm⟩ : ∃ m : Nat, cntZ (tx.size : Int) = (m : Int) := ⟨(cntZ (tx.size : Int)).toNat, by have := cntZ_rng (tx.size : Int); omega⟩
        have hm167 : m ≤ 167 := by have := cntZ_rng (tx.size : Int); omega
        have HCN := hidep (show ∀ W, Calls Tryz.prog 56 #[.int .i64 (tx.size : Int)] W fun e w' => e = .returned (.int .i64 (m : Nat)) ∧ w' = W from fun W => by
          have := countR_any (tx.size : Int) W (by omega) (by omega)
          rw [hm] at this
          exact this)
        have hin4 := HJ.out.2.2.1.ok'.1.2.1
        obtain ⟨rm, hrm⟩ : ∃ rm, rm = roomZ j D := ⟨_, rfl⟩
        have hrb : -200000 ≤ rm ∧ rm ≤ 200000 := by
          rw [hrm]
          unfold roomZ
          rw [← hst]
          omega
        rw [← hrm] at HR
        by_cases hfu : rm < (m : Int)
        · have hz : appendZ j D tx = (0, 24, j, D) := by unfold appendZ; rw [if_neg hcf, if_neg (by rw [← hnx]; omega), if_pos (by rw [← hrm, hm]; exact hfu)]
          have HZ := hidep hz
          have g3 : (m : Int) > rm := hfu
          clear hz hcl hnx hst hcf hsz hnb hm hrm hfu
          go_enter Tryz.func30, Tryz.ntmps30
          go_wp2_with (first
            | (go_at_call 56; refine (HCN.out _).mono ?_; rintro e w3 ⟨rfl, rfl⟩)
            | (go_at_call 59; refine HR.out.mono ?_; rintro e w4 ⟨rfl, hb4⟩)
            | fail)
          refine bodyPost_ret (P := Tryz.prog) (fn := Tryz.f30) (results_tmp2 rfl _ _ _) (by kernel_rfl) ?_
          rw [HZ.out]
          exact ⟨by kernel_rfl, HJ.out.1.below hb4, HJ.out.2.2.1.below hb4, Turned.of_below hb4⟩
        · have g3 : ¬ (m : Int) > rm := hfu
          obtain ⟨hpe, hl1, hl2, hlz⟩ := pack_len nx tx (by omega) (by omega)
          obtain ⟨l, hld⟩ : ∃ l, l = packL nx tx := ⟨_, rfl⟩
          have hz : appendZ j D tx = if (putZ D st l).1 ≠ 0 then (0, (putZ D st l).1, { j with next := nx + 1, stop := st + l.length, closed := true }, (putZ D st l).2.2) else if (putZ D st l).2.1 = false then (0, 26, { j with next := nx + 1, stop := st + l.length }, (putZ D st l).2.2) else (nx, 0, { j with next := nx + 1, stop := st + l.length, nums := j.nums ++ [nx], texts := j.texts ++ [tx] }, (putZ D st l).2.2) := by
            unfold appendZ
            rw [if_neg hcf, if_neg (by rw [← hnx]; omega), if_neg (by rw [← hrm, hm]; exact hfu), ← hnx, ← hst, ← hld]
          have HPK := hidep (fun Y (hY : Below w.heap.size w Y) => packR_any nx tx Y (by omega) (by omega) hts (HK.out.below hY))
          rw [hpe, ← hld] at HPK
          rw [← hld] at hl1 hl2 hlz
          have HZ := hidep hz
          have HLZ := hidep hlz
          have HNX := hidep (And.intro hcl (And.intro hnx hst))
          clear hz hcl hcf hsz hnb hm hrm hfu hpe hld hlz hnx hst
          go_enter Tryz.func30, Tryz.ntmps30
          go_upto_region 9 with (first
            | (go_at_call 56; refine (HCN.out _).mono ?_; rintro e w3 ⟨rfl, hw3⟩; rw [hw3]; clear hw3)
            | (go_at_call 59; refine HR.out.mono ?_; rintro e w4 ⟨rfl, hb4⟩; have d4 := Turned.cell (Turned.of_below (T := fun _ => False) hb4) c4 (fun h => h); have d5 := Turned.cell (Turned.of_below (T := fun _ => False) hb4) c5 (fun h => h))
            | fail)
          refine wp_abs (fun X => Below w.heap.size w X) hb4 ?_
          clear hb4 c0 c1 c2 c3 c6 HCN HR g1 g2 g3 d4 d5 c4 c5
          rintro X hbX
          refine wp_cutA 153 (fun tm ds => ds = [] ∧ slot tm 0 = .pointer (some ⟨b, 0, none⟩) ∧ slot tm 1 = .string tx ∧ slot tm 6 = .int .i64 nx ∧ slot tm 7 = .int .i64 st) (by kernel_rfl) (by exact ⟨by kernel_rfl, by kernel_rfl, by kernel_rfl, by kernel_rfl, by kernel_rfl⟩) ?_
          rintro tA dA h153 ⟨rfl, e0, e1, e6, e7⟩
          rw [frame153 tA [] h153, e0, e1, e6, e7]
          clear h153 e0 e1 e6 e7
          obtain ⟨n, hn⟩ : ∃ n, n = l.length := ⟨_, rfl⟩
          rw [← hn] at hl1 hl2
          have HN := hidep hn
          clear hn
          have hw1 : IntKind.i64.wrap (nx + 1) = nx + 1 := IntWalk.i64_in _ (by omega)
          have hw2 : IntKind.i64.wrap (st + (n : Int)) = st + (n : Int) := IntWalk.i64_in _ (by omega)
          go_upto_region 10 with (first
            | (go_at_call 60; refine (HPK.out _ hbX).mono ?_; rintro e w8 ⟨v, rfl, ho8, hb8⟩)
            | fail)
          have hbw8 := hbX.trans (hb8.mono hbX.size)
          have hin8 := HJ.out.2.1.below hbw8
          obtain ⟨d0, d1, d2, d3, d4, d5, d6⟩ := hin8.cells
          rw [← HNX.out.2.1] at d4
          rw [← HNX.out.2.2] at d5
          have f4 := box_frozen hin8.box 4
          have f5 := box_frozen hin8.box 5
          obtain ⟨va, vc, rfl, hvl, hvc⟩ := (Rd.of_own ho8).form
          rw [← HN.out] at hvl ho8 ⊢
          unfold maxLen at hvc
          go_upto_region 13 with (fail)
          have hlow := Nat.lt_of_le_of_lt HJ.out.2.1.hb (lt_of_block HJ.out.2.1.box)
          have hbs := hbX.size
          have hT10 : Turned (fun x => x = b) w8 ((w8.setCell ⟨b, 4, none⟩ (.int .i64 (nx + 1))).setCell ⟨b, 5, none⟩ (.int .i64 (st + (n : Int)))) := ((Turned.refl (fun x => x = b) w8).setCell ⟨b, 4, none⟩ _ (.inr rfl)).setCell ⟨b, 5, none⟩ _ (.inr rfl)
          have hbx1 := heap_set hin8.box 4 (.int .i64 (nx + 1))
          refine wp_abs (fun Y => RJIn Y lo b dv nv bv tv { j with next := nx + 1, stop := st + (n : Int) } ∧ Y.ownsRow X.heap.size 9 1 (.slice va n vc) n (strL l) ∧ RDiskAt Y dlo dhi dv D ∧ Turned (fun x => x = b) w Y) ⟨(hin8.nxt (nx + 1)).stop (st + (n : Int)), own_boxt (own_boxt ho8 hin8.box (by decide) 4 _) hbx1 (by decide) 5 _, (HJ.out.2.2.1.below hbw8).turned hT10 (fun x h1 h2 h3 => by
            have := hin8.hb
            omega), (Turned.of_below hbw8).trans hT10⟩ ?_
          clear hT10 hbx1 d0 d1 d2 d3 d4 d5 d6 f4 f5 hin8 ho8 hbw8 hb8
          rintro X10 ⟨hin10, ho10, hd10, hT10⟩
          have hhi : dhi ≤ X.heap.size := by omega
          obtain ⟨g, vc2, hva, hgX, _⟩ := own_block ho10 (fun e => by have := ho10.2; rcases this with ⟨_, h0⟩ | ⟨_, _, _, h0, _⟩; omega; rw [e] at h0; cases h0)
          have hvc2 : vc2 = vc ∧ va = some ⟨g, 0, none⟩ := by
            injection hva with h1 h2 h3
            exact ⟨h3.symm, h1⟩
          obtain ⟨rfl, rfl⟩ := hvc2
          clear hva
          have hbd : dhi ≤ b := Nat.le_trans hlo hin10.hb
          have hgd : dhi ≤ g := by omega
          have hz := HZ.out
          rw [← HN.out] at hz
          have H10 := hidep (And.intro hin10 (And.intro hT10 (And.intro ho10 hin10.cells.1)))
          have HZ2 := hidep hz
          have hT0 := Turn.refl dlo dhi X10
          obtain ⟨j1, hj1⟩ : ∃ j1, j1 = { j with next := nx + 1, stop := st + (n : Int) } := ⟨_, rfl⟩
          have HJ1 := hidep hj1
          clear hin10 ho10 hT10 hz hj1
          have HFIN := hidep (show ∀ (W : World) (D2 : Dk), RDiskAt W dlo dhi dv D2 → Turn dlo dhi X10 W → RJIn W lo b dv nv bv tv { j with next := nx + 1, stop := st + (n : Int) } ∧ Turned (fun x => (dlo ≤ x ∧ x < dhi) ∨ B x) w W from fun W D2 h1 h2 =>
            ⟨H10.out.1.turn h2 hlo, (H10.out.2.1.mono (T' := fun x => (dlo ≤ x ∧ x < dhi) ∨ B x) (fun x _ hx => .inr (by rw [hx]; exact HB.out.1))).trans ((Turned.of_turn h2).mono (fun x _ hx => .inl hx))⟩)
          refine wp_cutA 153 (fun tm ds => ds = [] ∧ slot tm 0 = .pointer (some ⟨b, 0, none⟩) ∧ slot tm 1 = .string tx ∧ slot tm 6 = .int .i64 nx ∧ slot tm 7 = .int .i64 st ∧ slot tm 8 = .slice (some ⟨g, 0, none⟩) n vc2 ∧ slot tm 10 = .int .i64 0) (by kernel_rfl) (by exact ⟨by kernel_rfl, by kernel_rfl, by kernel_rfl, by kernel_rfl, by kernel_rfl, by kernel_rfl, by kernel_rfl⟩) ?_
          rintro tB dB h153 ⟨rfl, e0, e1, e6, e7, e8, e10⟩
          rw [frame153 tB [] h153, e0, e1, e6, e7, e8, e10]
          clear h153 e0 e1 e6 e7 e8 e10
          refine wp_loop (LoopI 153 (fun tm ds wr => (slot tm 0) = .pointer (some ⟨b, 0, none⟩) ∧ (slot tm 1) = .string tx ∧ (slot tm 6) = .int .i64 nx ∧ (slot tm 7) = .int .i64 st ∧ (slot tm 8) = .slice (some ⟨g, 0, none⟩) n vc2 ∧ ds = [] ∧ RWrI D st l X10 dlo dhi dv (slot tm 10) wr)) (fun a' wr => n - natI (a'.tmps.getD 10 undef)) ?wr1Start ?wr1Round
          case' wr1Start => refine LoopI.mk rfl ?_
          case' wr1Round => (rintro ⟨t, ds⟩ wr ⟨hts, hrel⟩; dsimp only at hts hrel; rw [frame153 t ds hts])
          case wr1Start => exact ⟨rfl, rfl, rfl, rfl, rfl, rfl, 0, D, Nat.zero_le _, rfl, by simp, hd10, hT0⟩
          clear hd10 hT0
          obtain ⟨e0, e1, e6, e7, e8, hds, i, E, hi, e10, hwz, hd, hT⟩ := hrel
          subst hds
          rw [e0, e1, e6, e7, e8, e10]
          clear e0 e1 e6 e7 e8 e10 hts
          rw [← HN.out] at hi
          by_cases hin : i < n
          · have hil : i < l.length := by rw [← HN.out]; exact hin
            have hini : (i : Int) < (n : Int) := by omega
            have hi0 : (0 : Int) ≤ (i : Int) := by omega
            have hrl : X10.ownsRow X.heap.size 9 1 (.slice (some ⟨g, 0, none⟩) l.length vc2) l.length (strL l) := by have := H10.out.2.2.1; rwa [HN.out] at this
            obtain ⟨s, hs⟩ : ∃ s, s = l[i] := ⟨_, rfl⟩
            have hss : s.size ≤ 1000 := HLZ.out s (by rw [hs]; exact List.getElem_mem hil)
            have hcs0 := strs_cell hrl i hil
            rw [← hs] at hcs0
            have HCC := hidep (fun Y (hY : Turn dlo dhi wr Y) => And.intro (turn_cell (hT.trans hY) H10.out.2.2.2 hbd) (turn_cell (hT.trans hY) hcs0 hgd))
            have hw : IntKind.i64.wrap (st + (i : Int)) = st + (i : Int) := IntWalk.i64_in _ (by omega)
            have HW := hidep (rwrite_any dv E (st + (i : Int)) s wr.drew dlo dhi (hd.below (Below.refl _ _).drew) (by unfold maxLen; omega))
            obtain ⟨er, her⟩ : ∃ er, er = writeE E (st + (i : Int)) s := ⟨_, rfl⟩
            have hstep : writesZ D st l = if er = 0 then writesZ (writeD E (st + (i : Int)) s) (st + (i : Int) + 1) (l.drop (i + 1)) else (er, writeD E (st + (i : Int)) s) := by
              rw [hwz, drop_cons' l i hil, ← hs, her]
              rfl
            rw [← her] at HW
            have HT := hidep hT
            clear hs her hwz hd hcs0 hrl hT hss
            go_upto_region 15 with (fail)
            refine wp_region_noPanic (wp_region_held_drew (S := (fun Y => Turn dlo dhi wr Y)) (by kernel_rfl) ?hS30r15n0 (fun hHeld => ?hR30r15n0))
            case hS30r15n0 => ((try dsimp only); (exact Turn.of_below (Below.refl _ _).drew))
            refine wpAnyH_take (i := 0) (v := ?v30r15n0q1) rfl (by kernel_rfl) (by kernel_rfl) (by kernel_rfl) (fun _ _ _ h => h) (Or.inl ⟨by kernel_rfl, ?hy30r15n0q1⟩) (by assumption) ?hr30r15n0q1
            case hy30r15n0q1 => (intro w hSw; (try dsimp only at hSw); (obtain ⟨c0, ci⟩ := HCC.out w hSw); first | (go_simp; done) | (go_simp; with_reducible rfl))
            refine wpAnyH_take (i := 1) (v := ?v30r15n0q2) rfl (by kernel_rfl) (by kernel_rfl) (by kernel_rfl) (fun _ _ _ h => h) (Or.inl ⟨by kernel_rfl, ?hy30r15n0q2⟩) (by assumption) ?hr30r15n0q2
            case hy30r15n0q2 => (intro w hSw; (try dsimp only at hSw); (obtain ⟨c0, ci⟩ := HCC.out w hSw); first | (go_simp; done) | (go_simp; with_reducible rfl))
            refine wpAnyH_take (i := 2) (v := ?v30r15n0q3) rfl (by kernel_rfl) (by kernel_rfl) (by kernel_rfl) (fun _ _ _ h => h) (Or.inl ⟨by kernel_rfl, ?hy30r15n0q3⟩) (by assumption) ?hr30r15n0q3
            case hy30r15n0q3 => (intro w hSw; (try dsimp only at hSw); (obtain ⟨c0, ci⟩ := HCC.out w hSw); first | (go_simp; done) | (go_simp; with_reducible rfl))
            refine wpAnyH_take (i := 3) (v := ?v30r15n0q4) rfl (by kernel_rfl) (by kernel_rfl) (by kernel_rfl) (fun _ _ _ h => h) (Or.inl ⟨by kernel_rfl, ?hy30r15n0q4⟩) (by assumption) ?hr30r15n0q4
            case hy30r15n0q4 => (intro w hSw; (try dsimp only at hSw); (obtain ⟨c0, ci⟩ := HCC.out w hSw); first | (go_simp; done) | (go_simp; with_reducible rfl))
            refine wpAnyH_take (i := 4) (v := ?v30r15n0q5) rfl (by kernel_rfl) (by kernel_rfl) (by kernel_rfl) (fun _ _ _ h => h) (Or.inl ⟨by kernel_rfl, ?hy30r15n0q5⟩) (by assumption) ?hr30r15n0q5
            case hy30r15n0q5 => (intro w hSw; (try dsimp only at hSw); (obtain ⟨c0, ci⟩ := HCC.out w hSw); first | (go_simp; done) | (go_simp; with_reducible rfl))
            refine wpAnyH_take (i := 5) (v := ?v30r15n0q6) rfl (by kernel_rfl) (by kernel_rfl) (by kernel_rfl) (fun _ _ _ h => h) (Or.inl ⟨by kernel_rfl, ?hy30r15n0q6⟩) (by assumption) ?hr30r15n0q6
            case hy30r15n0q6 => (intro w hSw; (try dsimp only at hSw); (obtain ⟨c0, ci⟩ := HCC.out w hSw); first | (go_simp; done) | (go_simp; with_reducible rfl))
            refine wpAnyH_take (i := 6) (v := ?v30r15n0q7) rfl (by kernel_rfl) (by kernel_rfl) (by kernel_rfl) (fun _ _ _ h => h) (Or.inl ⟨by kernel_rfl, ?hy30r15n0q7⟩) (by assumption) ?hr30r15n0q7
            case hy30r15n0q7 => (intro w hSw; (try dsimp only at hSw); (obtain ⟨c0, ci⟩ := HCC.out w hSw); first | (go_simp; done) | (go_simp; with_reducible rfl))
            refine wpAnyH_take (i := 7) (v := ?v30r15n0q8) rfl (by kernel_rfl) (by kernel_rfl) (by kernel_rfl) (fun _ _ _ h => h) (Or.inl ⟨by kernel_rfl, ?hy30r15n0q8⟩) (by assumption) ?hr30r15n0q8
            case hy30r15n0q8 => (intro w hSw; (try dsimp only at hSw); (obtain ⟨c0, ci⟩ := HCC.out w hSw); first | (go_simp; done) | (go_simp; with_reducible rfl))
            refine wpAnyH_take (i := 8) (v := ?v30r15n0q9) rfl (by kernel_rfl) (by kernel_rfl) (by kernel_rfl) (fun _ _ _ h => h) (Or.inl ⟨by kernel_rfl, ?hy30r15n0q9⟩) (by assumption) ?hr30r15n0q9
            case hy30r15n0q9 => (intro w hSw; (try dsimp only at hSw); (obtain ⟨c0, ci⟩ := HCC.out w hSw); first | (go_simp; done) | (go_simp; with_reducible rfl))
            refine wpAnyH_take (i := 9) (v := ?v30r15n0q10) rfl (by kernel_rfl) (by kernel_rfl) (by kernel_rfl) (fun _ _ _ h => h) (Or.inl ⟨by kernel_rfl, ?hy30r15n0q10⟩) (by assumption) ?hr30r15n0q10
            case hy30r15n0q10 => (intro w hSw; (try dsimp only at hSw); (obtain ⟨c0, ci⟩ := HCC.out w hSw); first | (go_simp; done) | (go_simp; with_reducible rfl))
            refine wpAnyH_take (i := 10) (v := ?v30r15n0q11) rfl (by kernel_rfl) (by kernel_rfl) (by kernel_rfl) (fun _ _ _ h => h) (Or.inl ⟨by kernel_rfl, ?hy30r15n0q11⟩) (by assumption) ?hr30r15n0q11
            case hy30r15n0q11 => (intro w hSw; (try dsimp only at hSw); (obtain ⟨c0, ci⟩ := HCC.out w hSw); first | (go_simp; done) | (go_simp; with_reducible rfl))
            refine wpAnyH_ready (rs := [11]) (by kernel_rfl) (by simp) (AllReadyH.cons rfl (fun K hK => ?hc30r15n0q12) AllReadyH.nil)
            go_simp
            (go_at_call 11; refine HW.out.mono ?_; rintro e w5 ⟨rfl, hd5, hT5⟩; have hk := (Turn.of_below (lo := dlo) (hi := dhi) (Below.refl wr.heap.size wr).drew).trans hT5; (try dsimp only))
            refine hK.out _ _ ?hs30r15n0q12 (fun hHeld30r15n0q12 => ?ht30r15n0q12)
            case hs30r15n0q12 => ((try dsimp only); (exact hk))
            clear hHeld hK
            have hHeld := hHeld30r15n0q12
            clear hHeld30r15n0q12
            refine wpAnyH_take (i := 12) (v := ?v30r15n0q13) rfl (by kernel_rfl) (by kernel_rfl) (by kernel_rfl) (fun _ _ _ h => h) (Or.inl ⟨by kernel_rfl, ?hy30r15n0q13⟩) (by assumption) ?hr30r15n0q13
            case hy30r15n0q13 => (intro w hSw; (try dsimp only at hSw); (obtain ⟨c0, ci⟩ := HCC.out w hSw); first | (go_simp; done) | (go_simp; with_reducible rfl))
            refine wpAnyH_done (by kernel_rfl) ?_ _
            clear hHeld
            refine NoPanic.normal ?_
            apply_assumption
            have hT6 := HT.out.trans hk
            refine wp_abs (fun Y => RDiskAt Y dlo dhi dv (writeD E (st + (i : Int)) s) ∧ Turn dlo dhi X10 Y) ⟨hd5, hT6⟩ ?_
            clear hd5 hT5 hk hT6 HW HCC
            rintro Y ⟨hd5, hT6⟩
            refine wp_cutA 153 (fun tm ds => ds = [] ∧ slot tm 0 = .pointer (some ⟨b, 0, none⟩) ∧ slot tm 1 = .string tx ∧ slot tm 6 = .int .i64 nx ∧ slot tm 7 = .int .i64 st ∧ slot tm 8 = .slice (some ⟨g, 0, none⟩) n vc2 ∧ slot tm 10 = .int .i64 (i : Int) ∧ slot tm 11 = .int .i64 er) (by kernel_rfl) (by exact ⟨by kernel_rfl, by kernel_rfl, by kernel_rfl, by kernel_rfl, by kernel_rfl, by kernel_rfl, by kernel_rfl, by kernel_rfl⟩) ?_
            rintro tC dC h153 ⟨rfl, e0, e1, e6, e7, e8, e10, e11⟩
            rw [frame153 tC [] h153, e0, e1, e6, e7, e8, e10, e11]
            clear h153 e0 e1 e6 e7 e8 e10 e11
            by_cases h0 : er = 0
            · have g1 : (er != 0) = false := by simp [h0]
              have g2 : (er == 0) = true := by simp [h0]
              rw [if_pos h0] at hstep
              have HST := hidep hstep
              clear hstep h0
              go_wp2
              refine ⟨LoopI.mk rfl ⟨rfl, rfl, rfl, rfl, rfl, rfl, i + 1, _, by omega, by show Value.int _ _ = _; go_num, (HST.out.trans (by rw [show st + (i : Int) + 1 = st + ((i + 1 : Nat) : Int) from by omega])), hd5, hT6⟩, ?_⟩
              show n - _ < n - _
              simp [natI]; omega
            · have g1 : (er != 0) = true := by simp [h0]
              have g2 : (er == 0) = false := by simp [h0]
              rw [if_neg h0] at hstep
              have hput : putZ D st l = (er, false, writeD E (st + (i : Int)) s) := by
                unfold putZ
                rw [hstep, if_pos h0]
              have hz := HZ2.out
              rw [hput] at hz
              simp only at hz
              rw [if_pos h0] at hz
              have HZ3 := hidep hz
              obtain ⟨hin11, hTT⟩ := HFIN.out Y _ hd5 hT6
              have d6 := hin11.cells.2.2.2.2.2.2
              have f6 := box_frozen hin11.box 6
              clear hz h0 hstep hput
              go_wp2
              refine bodyPost_ret (P := Tryz.prog) (fn := Tryz.f30) (results_tmp2 rfl _ _ _) (by kernel_rfl) ?_
              rw [HZ3.out]
              have hsh := hin11.shut true
              exact ⟨by kernel_rfl, ⟨b, nv, bv, tv, rfl, hsh, .inl HB.out.1, fun x hx => .inl (HB.out.2.1 x hx), fun x hx => .inl (HB.out.2.2.1 x hx), fun x hx => .inl (HB.out.2.2.2 x hx)⟩, hd5.turned ((Turned.refl (fun x => x = b) _).setCell ⟨b, 6, none⟩ _ (.inr rfl)) (fun x h1 h2 h3 => by omega), hTT.setCell ⟨b, 6, none⟩ _ (.inr (.inr HB.out.1))⟩
          · have hin2 : i = n := by omega
            have hini : ¬ (i : Int) < (n : Int) := by omega
            have hwz0 : writesZ D st l = (0, E) := by
              rw [hwz, hin2, HN.out, List.drop_length]
              rfl
            have HF := hidep (rflush_any dv E wr dlo dhi hd)
            obtain ⟨er, her⟩ : ∃ er, er = flushE E := ⟨_, rfl⟩
            rw [← her] at HF
            have HWZ := hidep (And.intro hwz0 her)
            have c0 := turn_cell hT H10.out.2.2.2 hbd
            have HT := hidep hT
            clear hwz hwz0 her hd hin2 hi hT
            by_cases h0 : er = 0
            · have g1 : (er != 0) = false := by simp [h0]
              have g2 : (er == 0) = true := by simp [h0]
              have hput : putZ D st l = ((checksZ (flushD E) st l true).1, (checksZ (flushD E) st l true).2, flushD E) := by
                unfold putZ
                rw [HWZ.out.1, if_neg (by intro h; exact h rfl), if_neg (by rw [← HWZ.out.2]; intro h; exact h h0)]
              have hz := HZ2.out
              rw [hput] at hz
              simp only at hz
              have HZ3 := hidep hz
              clear h0 hput hz
              go_upto_region 25 with (first
                | (go_at_call 66; refine HF.out.mono ?_; rintro e w5 ⟨rfl, hd5, hT5⟩)
                | fail)
              have hT6 := HT.out.trans hT5
              obtain ⟨D2, hD2⟩ : ∃ D2, D2 = flushD E := ⟨_, rfl⟩
              rw [← hD2] at hd5 HZ3
              clear HT hT5 hD2 c0 HF HWZ
              refine wp_loop (LoopI 153 (fun tm ds wr => (slot tm 0) = .pointer (some ⟨b, 0, none⟩) ∧ (slot tm 1) = .string tx ∧ (slot tm 6) = .int .i64 nx ∧ (slot tm 7) = .int .i64 st ∧ (slot tm 8) = .slice (some ⟨g, 0, none⟩) n vc2 ∧ ds = [] ∧ RChI D2 st l X10 dlo dhi dv (slot tm 13) (slot tm 14) wr)) (fun a' wr => n - natI (a'.tmps.getD 14 undef)) ?wr2Start ?wr2Round
              case' wr2Start => refine LoopI.mk rfl ?_
              case' wr2Round => (rintro ⟨t, ds⟩ wr ⟨hts, hrel⟩; dsimp only at hts hrel; rw [frame153 t ds hts])
              case wr2Start => exact ⟨rfl, rfl, rfl, rfl, rfl, rfl, 0, true, Nat.zero_le _, rfl, rfl, by simp, hd5, hT6⟩
              clear hd5 hT6 hini g1 g2
              obtain ⟨e0, e1, e6, e7, e8, hds, i2, bo, hi, e14, e13, hcz, hd, hT⟩ := hrel
              subst hds
              rw [e0, e1, e6, e7, e8, e13, e14]
              clear e0 e1 e6 e7 e8 e13 e14 hts
              rw [← HN.out] at hi
              have c0 := turn_cell hT H10.out.2.2.2 hbd
              by_cases hin : i2 < n
              · have hil : i2 < l.length := by rw [← HN.out]; exact hin
                have hini : (i2 : Int) < (n : Int) := by omega
                have hi0 : (0 : Int) ≤ (i2 : Int) := by omega
                have hrl : X10.ownsRow X.heap.size 9 1 (.slice (some ⟨g, 0, none⟩) l.length vc2) l.length (strL l) := by have := H10.out.2.2.1; rwa [HN.out] at this
                obtain ⟨s, hs⟩ : ∃ s, s = l[i2] := ⟨_, rfl⟩
                have hcs := turn_cell hT (strs_cell hrl i2 hil) hgd
                rw [← hs] at hcs
                have hw : IntKind.i64.wrap (st + (i2 : Int)) = st + (i2 : Int) := IntWalk.i64_in _ (by omega)
                have HRD := hidep (rread_any dv D2 (st + (i2 : Int)) wr dlo dhi hd)
                obtain ⟨er2, her⟩ : ∃ er2, er2 = (readZ D2 (st + (i2 : Int))).2 := ⟨_, rfl⟩
                obtain ⟨tt, htt⟩ : ∃ tt, tt = (readZ D2 (st + (i2 : Int))).1 := ⟨_, rfl⟩
                have hstep : checksZ D2 st l true = if er2 = 0 then checksZ D2 (st + (i2 : Int) + 1) (l.drop (i2 + 1)) (bo && decide (s = tt)) else (er2, false) := by
                  rw [hcz, drop_cons' l i2 hil, ← hs, her, htt]
                  rfl
                rw [← her, ← htt] at HRD
                have HDD := hidep (And.intro hd hT)
                clear hs her htt hcz hd hrl hT
                by_cases h0 : er2 = 0
                · have g1 : (er2 != 0) = false := by simp [h0]
                  have g2 : (er2 == 0) = true := by simp [h0]
                  rw [if_pos h0] at hstep
                  have HST := hidep hstep
                  clear hstep h0
                  cases bo with
                  | true =>
                    go_wp2_with (first
                      | (go_at_call 53; refine HRD.out.mono ?_; rintro e w5 ⟨rfl, rfl⟩)
                      | fail)
                    refine ⟨LoopI.mk rfl ⟨rfl, rfl, rfl, rfl, rfl, rfl, i2 + 1, decide (s = tt), by omega, by show Value.int _ _ = _; go_num, by show Value.bool _ = Value.bool _; rw [show decide (s = tt) = decide (tt = s) from by simp [eq_comm], ← str_beq], (HST.out.trans (by rw [Bool.true_and, show st + (i2 : Int) + 1 = st + ((i2 + 1 : Nat) : Int) from by omega])), HDD.out.1, HDD.out.2⟩, ?_⟩
                    show n - _ < n - _
                    simp [natI]; omega
                  | false =>
                    go_wp2_with (first
                      | (go_at_call 53; refine HRD.out.mono ?_; rintro e w5 ⟨rfl, rfl⟩)
                      | fail)
                    refine ⟨LoopI.mk rfl ⟨rfl, rfl, rfl, rfl, rfl, rfl, i2 + 1, false, by omega, by show Value.int _ _ = _; go_num, rfl, (HST.out.trans (by rw [Bool.false_and, show st + (i2 : Int) + 1 = st + ((i2 + 1 : Nat) : Int) from by omega])), HDD.out.1, HDD.out.2⟩, ?_⟩
                    show n - _ < n - _
                    simp [natI]; omega
                · have g1 : (er2 != 0) = true := by simp [h0]
                  have g2 : (er2 == 0) = false := by simp [h0]
                  rw [if_neg h0] at hstep
                  have hz := HZ3.out
                  rw [hstep] at hz
                  simp only at hz
                  rw [if_pos h0] at hz
                  have HZ4 := hidep hz
                  clear hstep h0 hz HZ HZ2 HZ3
                  obtain ⟨hin11, hTT⟩ := HFIN.out _ _ HDD.out.1 HDD.out.2
                  have d6 := hin11.cells.2.2.2.2.2.2
                  have f6 := box_frozen hin11.box 6
                  go_wp2_with (first
                    | (go_at_call 53; refine HRD.out.mono ?_; rintro e w5 ⟨rfl, rfl⟩)
                    | fail)
                  refine bodyPost_ret (P := Tryz.prog) (fn := Tryz.f30) (results_tmp2 rfl _ _ _) (by kernel_rfl) ?_
                  rw [HZ4.out]
                  have hsh := hin11.shut true
                  exact ⟨by kernel_rfl, ⟨b, nv, bv, tv, rfl, hsh, .inl HB.out.1, fun x hx => .inl (HB.out.2.1 x hx), fun x hx => .inl (HB.out.2.2.1 x hx), fun x hx => .inl (HB.out.2.2.2 x hx)⟩, HDD.out.1.turned ((Turned.refl (fun x => x = b) _).setCell ⟨b, 6, none⟩ _ (.inr rfl)) (fun x h1 h2 h3 => by omega), hTT.setCell ⟨b, 6, none⟩ _ (.inr (.inr HB.out.1))⟩
              · have hin2 : i2 = n := by omega
                have hini : ¬ (i2 : Int) < (n : Int) := by omega
                have hend : checksZ D2 st l true = (0, bo) := by
                  rw [hcz, hin2, HN.out, List.drop_length]
                  rfl
                have hz := HZ3.out
                rw [hend] at hz
                simp only at hz
                rw [if_neg (by intro h; exact h rfl)] at hz
                obtain ⟨hin11, hTT⟩ := HFIN.out _ _ hd hT
                cases bo with
                | false =>
                  rw [if_pos rfl] at hz
                  have HZ4 := hidep hz
                  clear hz HZ HZ2 HZ3 hcz hend hin2
                  go_wp2
                  refine bodyPost_ret (P := Tryz.prog) (fn := Tryz.f30) (results_tmp2 rfl _ _ _) (by kernel_rfl) ?_
                  rw [HZ4.out]
                  exact ⟨by kernel_rfl, ⟨b, nv, bv, tv, rfl, hin11, .inl HB.out.1, fun x hx => .inl (HB.out.2.1 x hx), fun x hx => .inl (HB.out.2.2.1 x hx), fun x hx => .inl (HB.out.2.2.2 x hx)⟩, hd, hTT⟩
                | true =>
                  rw [if_neg (by decide)] at hz
                  have HZ4 := hidep hz
                  clear hz HZ HZ2 HZ3 hcz hend hin2
                  have HIN := hidep (And.intro hin11 (And.intro hd hTT))
                  clear hin11 hd hTT hT c0
                  obtain ⟨na, nc, rfl, hnl, hnc⟩ := (Rd.of_own HIN.out.1.rn).form
                  obtain ⟨ta, tc, rfl, htl, htc⟩ := (Rd.of_own HIN.out.1.rt).form
                  have hO : ApR (fun x => x = b ∨ (Value.slice na j.nums.length nc).ownBlock = some x ∨ (Value.slice ta j.texts.length tc).ownBlock = some x) lo b dv _ bv _ _ _ _ j.nums j.texts wr wr :=
                    ⟨HIN.out.1.mid, Turned.refl _ _, fun x hx => .inl (.inr (.inl hx)), fun x hx => .inl (.inr (.inr hx))⟩
                  obtain ⟨B1, hB1⟩ : ∃ B1 : Nat → Prop, B1 = fun x => x = b ∨ (Value.slice na j.nums.length nc).ownBlock = some x ∨ (Value.slice ta j.texts.length tc).ownBlock = some x := ⟨_, rfl⟩
                  rw [← hB1] at hO
                  have HBB := hidep (show (∀ x, B1 x → B x ∧ lo ≤ x) ∧ B1 b from by
                    rw [hB1]
                    refine ⟨fun x hx => ?_, .inl rfl⟩
                    rcases hx with rfl | hx | hx
                    · exact ⟨HB.out.1, HIN.out.1.hb⟩
                    · exact ⟨HB.out.2.1 x hx, (HIN.out.1.rn.lt x hx).1⟩
                    · exact ⟨HB.out.2.2.2 x hx, (HIN.out.1.rt.lt x hx).1⟩)
                  clear hB1
                  obtain ⟨d1, d3⟩ := hO.cells
                  have f1' := hO.free 1
                  have hOA := hO.below ((Below.refl _ _).alloc (Nat.le_refl _) (.cells #[.int .i64 nx] 3))
                  have hlit := Rd.fresh wr #[.int .i64 nx] 3 1 1 rfl (by decide)
                  have hln := hl.1
                  have hlt := hl.2
                  go_upto_region 35 with (first
                    | (at_builtin; refine wpList_append_rd _ rfl (.tmp 136) (.tmp 138) rfl slInts lo _ _ _ rfl hOA.mid.rn _ _ _ _ rfl hlit (by intro u hu; simp at hu; subst hu; rfl) (by unfold maxLen; omega) (by omega) hOA.low ?_; intro v9 w9 ho9 hg9 hd9 hnl9; obtain ⟨a9, c9, rfl, _, _⟩ := (Rd.of_own ho9).form; have hO9 := hOA.push_n ho9 hg9 hd9 (by omega); have f9 := hO9.free 1; have d9 := hO9.cells.1)
                    | fail)
                  have hO5 := hO9.done1 HBB.out.2
                  refine wp_abs (fun X => ApR B1 lo b dv (.slice a9 (j.nums.length + 1) c9) bv (.slice ta j.texts.length tc) (.slice a9 (j.nums.length + 1) c9) (.slice ta j.texts.length tc) { j with next := nx + 1, stop := st + (n : Int), nums := j.nums ++ [nx], texts := j.texts } (j.nums ++ [nx]) j.texts wr X) hO5 ?_
                  clear hO hOA hlit hO9 hO5 d9 f9 ho9 hg9 hd9 hnl9 d1 d3 f1'
                  rintro X5 hO5
                  have d2 := hO5.cells.2
                  have hOB := hO5.below ((Below.refl _ _).alloc (Nat.le_refl _) (.cells #[.string tx] 9))
                  have hlit := Rd.fresh X5 #[.string tx] 9 1 1 rfl (by decide)
                  go_wp2_with (first
                    | (at_builtin; refine wpList_append_rd _ rfl (.tmp 146) (.tmp 148) rfl slStrs lo _ _ _ rfl hOB.mid.rt _ _ _ _ rfl hlit (by intro u hu; simp at hu; subst hu; rfl) (by unfold maxLen; omega) (by omega) hOB.low ?_; intro v8 w8 ho8 hg8 hd8 hnl8; obtain ⟨a8, c8, rfl, _, _⟩ := (Rd.of_own ho8).form; have hO8 := hOB.push_t ho8 hg8 hd8 (by omega); have f8 := hO8.free 2; have d8 := hO8.cells.2)
                    | fail)
                  have hOF := hO8.done2 HBB.out.2
                  refine bodyPost_ret (P := Tryz.prog) (fn := Tryz.f30) (results_tmp2 rfl _ _ _) (by kernel_rfl) ?_
                  rw [HZ4.out]
                  have hwr := HIN.out.2.2.size
                  have hup : ∀ x, B1 x ∨ wr.heap.size ≤ x → B x ∨ w.heap.size ≤ x := fun x hx => by
                    rcases hx with hx | hx
                    · exact .inl (HBB.out.1 x hx).1
                    · exact .inr (by omega)
                  exact ⟨by kernel_rfl, ⟨b, _, bv, _, rfl, ⟨hOF.mid.hb, hOF.mid.box, hOF.mid.rn, hOF.mid.rb, hOF.mid.rt, hOF.mid.ne, hOF.mid.len⟩, .inl HB.out.1, fun x hx => hup x (hOF.bn x hx), fun x hx => .inl (HB.out.2.2.1 x hx), fun x hx => hup x (hOF.bt x hx)⟩, HIN.out.2.1.turned hOF.tur (fun x h1 h2 h3 => by
                    have := (HBB.out.1 x h3).2
                    omega), HIN.out.2.2.trans (hOF.tur.mono (fun x _ hx => .inr (HBB.out.1 x hx).1))⟩
            · have g1 : (er != 0) = true := by simp [h0]
              have g2 : (er == 0) = false := by simp [h0]
              have hput : putZ D st l = (er, false, flushD E) := by
                unfold putZ
                rw [HWZ.out.1, if_neg (by intro h; exact h rfl), if_pos (by rw [← HWZ.out.2]; exact h0), ← HWZ.out.2]
              have hz := HZ2.out
              rw [hput] at hz
              simp only at hz
              rw [if_pos h0] at hz
              have HZ3 := hidep hz
              clear h0 hput hz HZ HZ2
              go_upto_region 21 with (first
                | (go_at_call 66; refine HF.out.mono ?_; rintro e w5 ⟨rfl, hd5, hT5⟩)
                | fail)
              obtain ⟨hin11, hTT⟩ := HFIN.out _ _ hd5 (HT.out.trans hT5)
              have d6 := hin11.cells.2.2.2.2.2.2
              have f6 := box_frozen hin11.box 6
              go_wp2
              refine bodyPost_ret (P := Tryz.prog) (fn := Tryz.f30) (results_tmp2 rfl _ _ _) (by kernel_rfl) ?_
              rw [HZ3.out]
              have hsh := hin11.shut true
              exact ⟨by kernel_rfl, ⟨b, nv, bv, tv, rfl, hsh, .inl HB.out.1, fun x hx => .inl (HB.out.2.1 x hx), fun x hx => .inl (HB.out.2.2.1 x hx), fun x hx => .inl (HB.out.2.2.2 x hx)⟩, hd5.turned ((Turned.refl (fun x => x = b) _).setCell ⟨b, 6, none⟩ _ (.inr rfl)) (fun x h1 h2 h3 => by omega), hTT.setCell ⟨b, 6, none⟩ _ (.inr (.inr HB.out.1))⟩
end Go.Proofs.YtipbkdlekanlmaaGreatDoor
/- Journal: both journals and both disks in memory, apart from each other. -/
namespace Go.Proofs.YtipbkdlekanlmaaGreatDoor
open Go.RowKit Go.Lab Go.Disk Go.Jn
theorem JOn.cap {B : Nat → Prop} {w : World} {lo : Nat} {p dv : Value} {j : JZ} (h : JOn B w lo p dv j) : JOn (fun x => B x ∧ x < w.heap.size) w lo p dv j := by
  obtain ⟨b, nv, bv, tv, hp, hj, h1, h2, h3, h4⟩ := h
  exact ⟨b, nv, bv, tv, hp, hj, ⟨h1, lt_of_block hj.box⟩, fun x hx => ⟨h2 x hx, (hj.rn.lt x hx).2⟩, fun x hx => ⟨h3 x hx, (hj.rb.lt x hx).2⟩, fun x hx => ⟨h4 x hx, (hj.rt.lt x hx).2⟩⟩
/-- Both journals (blocks B, B2), both disks (blocks dlo..dhi, dhi..ehi). -/
structure MsS (lo lo2 dlo dhi ehi : Nat) (dv rv pj pr : Value) (j j2 : JZ) (D D2 : Dk) (B B2 : Nat → Prop) (w0 X : World) : Prop where
  jn : JOn B X lo pj dv j
  rn : RJOn B2 X lo2 pr rv j2
  dk : DiskAt X dlo dhi dv D
  rk : RDiskAt X dhi ehi rv D2
  l1 : ehi ≤ lo
  l2 : ehi ≤ lo2
  d1 : dlo ≤ dhi ∧ dhi ≤ ehi ∧ ehi ≤ X.heap.size
  b1 : ∀ x, B x → ehi ≤ x ∧ x < X.heap.size ∧ ¬ B2 x
  b2 : ∀ x, B2 x → ehi ≤ x ∧ x < X.heap.size
  bel : Below dlo w0 X
section
variable {lo lo2 dlo dhi ehi : Nat} {dv rv pj pr : Value} {j j2 : JZ} {D D2 : Dk} {B B2 : Nat → Prop} {w0 X X' : World}
theorem MsS.below (h : MsS lo lo2 dlo dhi ehi dv rv pj pr j j2 D D2 B B2 w0 X) (hb : Below X.heap.size X X') : MsS lo lo2 dlo dhi ehi dv rv pj pr j j2 D D2 B B2 w0 X' :=
  ⟨h.jn.below hb, h.rn.below hb, h.dk.below hb, h.rk.below hb, h.l1, h.l2, ⟨h.d1.1, h.d1.2.1, Nat.le_trans h.d1.2.2 hb.size⟩, fun x hx => ⟨(h.b1 x hx).1, Nat.lt_of_lt_of_le (h.b1 x hx).2.1 hb.size, (h.b1 x hx).2.2⟩, fun x hx => ⟨(h.b2 x hx).1, Nat.lt_of_lt_of_le (h.b2 x hx).2 hb.size⟩, h.bel.trans (hb.mono (by have := h.d1; omega))⟩
/-- The code's journal has taken a step. -/
theorem MsS.code (h : MsS lo lo2 dlo dhi ehi dv rv pj pr j j2 D D2 B B2 w0 X) {j' : JZ} {D' : Dk} (hj : JOn (fun x => B x ∨ X.heap.size ≤ x) X' lo pj dv j') (hd : DiskAt X' dlo dhi dv D') (hT : Turned (fun x => (dlo ≤ x ∧ x < dhi) ∨ B x) X X') :
    MsS lo lo2 dlo dhi ehi dv rv pj pr j' j2 D' D2 (fun x => (B x ∨ X.heap.size ≤ x) ∧ x < X'.heap.size) B2 w0 X' := by
  have d1 := h.d1
  have hz := hT.size
  refine ⟨hj.cap, h.rn.turned hT (fun x hx ht => ?_), hd, h.rk.turned hT (fun x h1 h2 ht => ?_), h.l1, h.l2, ⟨d1.1, d1.2.1, by omega⟩, fun x hx => ⟨?_, hx.2, fun h2 => ?_⟩, fun x hx => ⟨(h.b2 x hx).1, by have := (h.b2 x hx).2; omega⟩, h.bel.trans (hT.toB (fun x hx => ?_) (by omega))⟩
  · rcases ht with ht | ht
    · have := (h.b2 x hx).1; omega
    · exact (h.b1 x ht).2.2 hx
  · rcases ht with ht | ht
    · omega
    · have := (h.b1 x ht).1; omega
  · rcases hx.1 with h1 | h1
    · exact (h.b1 x h1).1
    · omega
  · rcases hx.1 with h1 | h1
    · exact (h.b1 x h1).2.2 h2
    · have := (h.b2 x h2).2; omega
  · rcases hx with hx | hx
    · exact hx.1
    · have := (h.b1 x hx).1; omega
/-- The reference's journal has taken a step. -/
theorem MsS.ref (h : MsS lo lo2 dlo dhi ehi dv rv pj pr j j2 D D2 B B2 w0 X) {j' : JZ} {D' : Dk} (hj : RJOn (fun x => B2 x ∨ X.heap.size ≤ x) X' lo2 pr rv j') (hd : RDiskAt X' dhi ehi rv D') (hT : Turned (fun x => (dhi ≤ x ∧ x < ehi) ∨ B2 x) X X') :
    MsS lo lo2 dlo dhi ehi dv rv pj pr j j' D D' B (fun x => (B2 x ∨ X.heap.size ≤ x) ∧ x < X'.heap.size) w0 X' := by
  have d1 := h.d1
  have hz := hT.size
  refine ⟨h.jn.turned hT (fun x hx ht => ?_), hj.cap, h.dk.turned hT (fun x h1 h2 ht => ?_), hd, h.l1, h.l2, ⟨d1.1, d1.2.1, by omega⟩, fun x hx => ⟨(h.b1 x hx).1, by have := (h.b1 x hx).2.1; omega, fun h2 => ?_⟩, fun x hx => ⟨?_, hx.2⟩, h.bel.trans (hT.toB (fun x hx => ?_) (by omega))⟩
  · rcases ht with ht | ht
    · have := (h.b1 x hx).1; omega
    · exact (h.b1 x hx).2.2 ht
  · rcases ht with ht | ht
    · omega
    · have := (h.b2 x ht).1; omega
  · rcases h2.1 with h3 | h3
    · exact (h.b1 x hx).2.2 h3
    · have := (h.b1 x hx).2.1; omega
  · rcases hx.1 with h1 | h1
    · exact (h.b2 x h1).1
    · omega
  · rcases hx with hx | hx
    · omega
    · have := (h.b2 x hx).1; omega
theorem MsS.turnC (h : MsS lo lo2 dlo dhi ehi dv rv pj pr j j2 D D2 B B2 w0 X) {D' : Dk} (hd : DiskAt X' dlo dhi dv D') (hT : Turn dlo dhi X X') : MsS lo lo2 dlo dhi ehi dv rv pj pr j j2 D' D2 B B2 w0 X' := by
  have d1 := h.d1
  have hz := hT.size
  refine ⟨h.jn.turned (Turned.of_turn hT) (fun x hx ht => by have := (h.b1 x hx).1; omega), h.rn.turned (Turned.of_turn hT) (fun x hx ht => by have := (h.b2 x hx).1; omega), hd, h.rk.keep hT (.inr (Nat.le_refl _)), h.l1, h.l2, ⟨d1.1, d1.2.1, by omega⟩,
    fun x hx => ⟨(h.b1 x hx).1, by have := (h.b1 x hx).2.1; omega, (h.b1 x hx).2.2⟩, fun x hx => ⟨(h.b2 x hx).1, by have := (h.b2 x hx).2; omega⟩, h.bel.trans (hT.below (Nat.le_refl _) (by omega))⟩
theorem MsS.turnR (h : MsS lo lo2 dlo dhi ehi dv rv pj pr j j2 D D2 B B2 w0 X) {D' : Dk} (hd : RDiskAt X' dhi ehi rv D') (hT : Turn dhi ehi X X') : MsS lo lo2 dlo dhi ehi dv rv pj pr j j2 D D' B B2 w0 X' := by
  have d1 := h.d1
  have hz := hT.size
  refine ⟨h.jn.turned (Turned.of_turn hT) (fun x hx ht => by have := (h.b1 x hx).1; omega), h.rn.turned (Turned.of_turn hT) (fun x hx ht => by have := (h.b2 x hx).1; omega), h.dk.keep hT (.inl (Nat.le_refl _)), hd, h.l1, h.l2, ⟨d1.1, d1.2.1, by omega⟩,
    fun x hx => ⟨(h.b1 x hx).1, by have := (h.b1 x hx).2.1; omega, (h.b1 x hx).2.2⟩, fun x hx => ⟨(h.b2 x hx).1, by have := (h.b2 x hx).2; omega⟩, h.bel.trans (hT.below d1.1 (by omega))⟩
theorem MsS.openC (h : MsS lo lo2 dlo dhi ehi dv rv pj pr j j2 D D2 B B2 w0 X) {j' : JZ} {p' : Value} (hj : JAt X' X.heap.size p' dv j') (hb : Below X.heap.size X X') : MsS X.heap.size lo2 dlo dhi ehi dv rv p' pr j' j2 D D2 (fun x => X.heap.size ≤ x ∧ x < X'.heap.size) B2 w0 X' := by
  have h2 := h.below hb
  have d1 := h.d1
  exact ⟨hj.on, h2.rn, h2.dk, h2.rk, d1.2.2, h.l2, h2.d1, fun x hx => ⟨by omega, hx.2, fun hx2 => by have := (h.b2 x hx2).2; omega⟩, h2.b2, h2.bel⟩
theorem MsS.openR (h : MsS lo lo2 dlo dhi ehi dv rv pj pr j j2 D D2 B B2 w0 X) {j' : JZ} {p' : Value} (hj : RJAt X' X.heap.size p' rv j') (hb : Below X.heap.size X X') : MsS lo X.heap.size dlo dhi ehi dv rv pj p' j j' D D2 B (fun x => X.heap.size ≤ x ∧ x < X'.heap.size) w0 X' := by
  have h2 := h.below hb
  have d1 := h.d1
  exact ⟨h2.jn, hj.on, h2.dk, h2.rk, h.l1, d1.2.2, h2.d1, fun x hx => ⟨(h.b1 x hx).1, (h2.b1 x hx).2.1, fun hx2 => by have := (h.b1 x hx).2.1; omega⟩, fun x hx => ⟨by omega, hx.2⟩, h2.bel⟩
end
end Go.Proofs.YtipbkdlekanlmaaGreatDoor
