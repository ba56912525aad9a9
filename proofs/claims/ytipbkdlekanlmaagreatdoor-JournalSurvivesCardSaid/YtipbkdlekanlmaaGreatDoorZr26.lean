/- Journal: the code's Damaged. -/
import Derived.Test.YtipbkdlekanlmaaGreatDoorZr23
import Derived.Test.YtipbkdlekanlmaaGreatDoorZr20
import Derived.Test.YtipbkdlekanlmaaGreatDoorZr25
import Derived.Test.YtipbkdlekanlmaaGreatDoorZr03
import Derived.Test.YtipbkdlekanlmaaGreatDoorZr14
namespace Go.Proofs.YtipbkdlekanlmaaGreatDoor
open Go.RowKit Go.Lab Go.Disk Go.Jn Go.Maps
attribute [local go_sem] Oper.semAt_some
set_option maxRecDepth 100000
/-- A map whose keys with true are the numbers of a list. -/
def SetView (M : DataW Unit) (L : List Int) : Prop := ∀ (i : Int) (z : DataW Unit), M.atKey (kI i) z = if i ∈ L then .lit (.bool true) else z
theorem SetView.put {M : DataW Unit} {L : List Int} (h : SetView M L) (hm : IsMap M) (x : Int) : SetView (M.put (kI x) (.lit (.bool true))) (L ++ [x]) := by
  intro i z
  by_cases hi : i = x
  · subst hi
    rw [atKey_put_same hm (i64_key _), if_pos (by simp)]
  · rw [atKey_put_other (kI_ne hi), h i z]
    simp [hi]
theorem look_set {w : World} {b n : Nat} {M : DataW Unit} {L : List Int} (h : wornMap w b n M) (hv : SetView M L) {i : Int} (hi : i64ok i) :
    (Instr.lookup 45 (.map (some b)) (.int .i64 i) false).run Tryz.prog w = .ok (.bool (decide (i ∈ L))) w := by
  obtain ⟨v, ps, hrun, hR⟩ := h.lookup keyedInt Tryz.underlying45 (zero_bool w) (plainElem_bool Tryz.underlying4 false) (keyI hi)
  rw [hrun]
  have e : M.atKey (kI i) (.lit (.bool false)) = .lit (.bool (decide (i ∈ L))) := by
    rw [hv i]
    by_cases hq : i ∈ L <;> simp [hq]
  rw [e] at hR
  obtain ⟨x, rfl, hx⟩ := plainElem_bool_inv Tryz.underlying4 hR
  simp only [Prod.mk.injEq, DataW.lit.injEq, Lit.bool.injEq] at hx
  simp only [hx.1]
theorem take_succI (l : List Int) (i : Nat) (h : i < l.length) : l.take (i + 1) = l.take i ++ [l[i]] := by
  rw [List.take_add_one, List.getElem?_eq_getElem h]
  rfl
def dmgTo (L : List Int) (k : Nat) : List Int := ((List.range k).map (fun k : Nat => (k : Int))).filter fun n => decide (1 ≤ n) && decide (n ∉ L)
theorem dmg_succ (L : List Int) (k : Nat) (h : 1 ≤ k) : dmgTo L (k + 1) = dmgTo L k ++ if ((k : Nat) : Int) ∈ L then [] else [(k : Int)] := by
  unfold dmgTo
  rw [List.range_succ, List.map_append, List.filter_append]
  congr 1
  have h1 : (1 : Int) ≤ (k : Int) := by omega
  by_cases hm : (k : Int) ∈ L <;> simp [hm, h1]
theorem dmg_len (L : List Int) (k : Nat) : (dmgTo L k).length ≤ k := by
  unfold dmgTo
  refine Nat.le_trans (List.length_filter_le _ _) ?_
  simp
def DaI (L : List Int) (n : Nat) (w : World) (mb : Nat) (iv : Value) (wr : World) : Prop := ∃ (i : Nat) (M : DataW Unit), i ≤ n ∧ iv = .int .i64 (i : Nat) ∧ wornMap wr mb i M ∧ SetView M (L.take i) ∧ Below w.heap.size w wr
def DaJ (L : List Int) (n : Nat) (w : World) (mb : Nat) (ov iv : Value) (wr : World) : Prop := ∃ (i m : Nat) (M : DataW Unit), 1 ≤ i ∧ i ≤ n ∧ iv = .int .i64 (i : Nat) ∧ wornMap wr mb m M ∧ SetView M L ∧ wr.ownsRow w.heap.size 3 1 ov (dmgTo L i).length (intsC (dmgTo L i)) ∧ Below w.heap.size w wr
set_option maxHeartbeats 8000000 in
theorem damaged_any (p dv : Value) (j : JZ) (w : World) (lo : Nat) (h : JAt w lo p dv j) (hx : 1 ≤ j.next ∧ j.next ≤ 100000) (hr : ∀ x ∈ j.nums, -9223372036854775808 ≤ x ∧ x ≤ 9223372036854775807) : Calls Tryz.prog 24 #[p] w fun e w' => ∃ v, e = .returned v ∧ w'.ownsRow w.heap.size 3 1 v (damagedZ j).length (intsC (damagedZ j)) ∧ Below w.heap.size w w' := by
  obtain ⟨b, nv, bv, tv, rfl, hj⟩ := h
  have hcl := hj.cells
  have hrn := (Rd.of_own hj.rn).mono (T' := fun _ => True) (fun _ _ => trivial)
  have hl := hj.len.1
  obtain ⟨L, hL⟩ : ∃ L, L = j.nums := ⟨_, rfl⟩
  obtain ⟨x, hxe⟩ : ∃ x : Nat, j.next = (x : Int) := ⟨j.next.toNat, by omega⟩
  rw [← hL] at hr
  have hrg := hidep hr
  clear hr
  have hdm : damagedZ j = dmgTo L x := by
    unfold damagedZ dmgTo
    rw [hxe, Int.toNat_natCast, hL]
  rw [hdm]
  rw [← hL] at hrn hl
  rw [hxe] at hx
  obtain ⟨na, nc, rfl, hn1, hn2⟩ := hrn.form
  have HC := hidep (fun Y (hY : Below w.heap.size w Y) => And.intro (Turned.cell (Turned.of_below (T := fun _ => False) hY) hcl.2.1 (fun h => h)) (And.intro (Turned.cell (Turned.of_below (T := fun _ => False) hY) hcl.2.2.2.2.1 (fun h => h)) (hrn.below hY)))
  rw [hxe] at HC
  have HN := hidep hxe
  obtain ⟨n, hn⟩ : ∃ n, n = L.length := ⟨_, rfl⟩
  rw [← hn] at HC hn1 hl
  have HL := hidep hn
  have hc1 := (HC.out (w.alloc (.map #[] 0)) ((Below.refl _ _).alloc (Nat.le_refl _) _)).1
  clear hj hcl hrn hL hxe hdm hn
  unfold maxLen at hn2
  have hmm := @run_makeMap Tryz.prog
  go_enter Tryz.func24, Tryz.ntmps24
  go_upto_region 3 with (fail)
  have hmp := World.ownsMap_made (H := Unit) w Tryz.prog 3 (plainElem Tryz.prog 4)
  refine wp_abs (fun X => wornMap X w.heap.size 0 (.map []) ∧ Below w.heap.size w X) ⟨hmp, (Below.refl _ _).alloc (Nat.le_refl _) _⟩ ?_
  rintro X ⟨hmX, hbX⟩
  obtain ⟨mb, hmb⟩ : ∃ mb, mb = w.heap.size := ⟨_, rfl⟩
  rw [← hmb] at hmX
  rw [← hmb]
  have HMB := hidep hmb
  clear hmb hmp hmm
  refine wp_loop (LoopI 38 (fun tm ds wr => (slot tm 0) = .pointer (some ⟨b, 0, none⟩) ∧ (slot tm 3) = .map (some mb) ∧ (slot tm 12) = .slice na n nc ∧ (slot tm 13) = .int .i64 (n : Nat) ∧ ds = [] ∧ DaI L n w mb (slot tm 14) wr)) (fun a' wr => n - natI (a'.tmps.getD 14 undef)) ?wr1Start ?wr1Round
  case' wr1Start => refine LoopI.mk rfl ?_
  case' wr1Round => (rintro ⟨t, ds⟩ wr ⟨hts, hrel⟩; dsimp only at hts hrel; rw [frame38 t ds hts])
  case wr1Start => exact ⟨rfl, rfl, rfl, rfl, rfl, 0, .map [], Nat.zero_le _, rfl, hmX, by intro i z; rfl, hbX⟩
  clear hmX hbX hc1
  obtain ⟨e0, e3, e12, e13, hds, i, M, hi, e14, hmX, hsv, hbw⟩ := hrel
  subst hds
  rw [e0, e3, e12, e13, e14]
  clear e0 e3 e12 e13 e14 hts
  by_cases hin : i < n
  · have hini : (i : Int) < (n : Int) := by omega
    have hi0 : (0 : Int) ≤ (i : Int) := by omega
    have hiL : i < L.length := by rw [← HL.out]; exact hin
    obtain ⟨g, o, rfl, hg, hcell⟩ := (HC.out wr hbw).2.2.at (by omega)
    have hci := hcell i (.int .i64 L[i]) (by simp [intsC, hiL])
    obtain ⟨x0, hx0⟩ : ∃ x0, x0 = L[i] := ⟨_, rfl⟩
    have hLr : -9223372036854775808 ≤ x0 ∧ x0 ≤ 9223372036854775807 := by rw [hx0]; exact hrg.out _ (List.getElem_mem hiL)
    rw [← hx0] at hci
    obtain ⟨w3, hr3, ho3, hg3⟩ := hmX.update (P := Tryz.prog) keyedInt Tryz.underlying45 (by unfold maxLen; omega) (keyI (i64ok_mk hLr)) (plainElem_bool Tryz.underlying4 true)
    have HS := hidep (show SetView (M.put (kI x0) (.lit (.bool true))) (L.take (i + 1)) from by
      have := hsv.put hmX.isMap x0
      rw [hx0, ← take_succI L i hiL] at this
      rw [hx0]
      exact this)
    have hb3 : Below w.heap.size w w3 := below_own hbw hg3 (fun r hr => by injection hr with hr; rw [← hr, HMB.out]; exact Nat.le_refl _) hbw.size
    have HI := hidep (And.intro ho3 hb3)
    clear hx0 hsv hmX hcell ho3 hg3 hb3
    go_wp2
    refine ⟨LoopI.mk rfl ⟨rfl, rfl, rfl, rfl, rfl, i + 1, _, by omega, by show Value.int _ _ = _; go_num, HI.out.1, HS.out, HI.out.2⟩, ?_⟩
    show n - _ < n - _
    simp [natI]; omega
  · have hini : ¬ (i : Int) < (n : Int) := by omega
    have hin2 : i = n := by omega
    rw [hin2, HL.out, List.take_length] at hsv
    have hnil : wr.ownsRow w.heap.size 3 1 (.slice none 0 0) (dmgTo L 1).length (intsC (dmgTo L 1)) := ⟨rfl, .inl ⟨rfl, rfl⟩⟩
    have HI := hidep (And.intro hmX (And.intro hsv (And.intro hnil hbw)))
    clear hin2 hmX hsv hnil hbw hi hin
    go_upto_region 9 with (fail)
    clear hini
    refine wp_loop (LoopI 38 (fun tm ds wr => (slot tm 0) = .pointer (some ⟨b, 0, none⟩) ∧ (slot tm 3) = .map (some mb) ∧ ds = [] ∧ DaJ L x w mb (slot tm 6) (slot tm 7) wr)) (fun a' wr => x - natI (a'.tmps.getD 7 undef)) ?wr2Start ?wr2Round
    case' wr2Start => refine LoopI.mk rfl ?_
    case' wr2Round => (rintro ⟨t, ds⟩ wr ⟨hts, hrel⟩; dsimp only at hts hrel; rw [frame38 t ds hts])
    case wr2Start => exact ⟨rfl, rfl, rfl, 1, i, M, Nat.le_refl _, by omega, rfl, HI.out.1, HI.out.2.1, HI.out.2.2.1, HI.out.2.2.2⟩
    clear HI
    obtain ⟨e0, e3, hds, k, m, M, hk1, hk2, e7, hmX, hsv, hown, hbw⟩ := hrel
    subst hds
    rw [e0, e3, e7]
    clear e0 e3 e7 hts
    obtain ⟨ov, hov⟩ : ∃ ov, ov = slot t 6 := ⟨_, rfl⟩
    rw [← hov] at hown ⊢
    clear hov
    have hcn := (HC.out wr hbw).2.1
    by_cases hkx : k < x
    · have hkxi : (k : Int) < (x : Int) := by omega
      have hlk := look_set hmX hsv (i64ok_mk (show -9223372036854775808 ≤ (k : Int) ∧ (k : Int) ≤ 9223372036854775807 from by omega))
      have hsuc := dmg_succ L k hk1
      have hdl := dmg_len L k
      obtain ⟨bm, hbm⟩ : ∃ bm, bm = decide ((k : Int) ∈ L) := ⟨_, rfl⟩
      rw [← hbm] at hlk
      cases bm with
      | true =>
        rw [if_pos (of_decide_eq_true hbm.symm), List.append_nil] at hsuc
        have HI := hidep (And.intro hmX (And.intro hsv (And.intro hown (And.intro hbw hsuc))))
        clear hmX hsv hown hbw hsuc hbm hdl
        go_wp2
        refine ⟨LoopI.mk rfl ⟨rfl, rfl, rfl, k + 1, m, M, by omega, by omega, by show Value.int _ _ = _; go_num, HI.out.1, HI.out.2.1, by rw [HI.out.2.2.2.2]; exact HI.out.2.2.1, HI.out.2.2.2.1⟩, ?_⟩
        show x - _ < x - _
        simp [natI]; omega
      | false =>
        rw [if_neg (of_decide_eq_false hbm.symm)] at hsuc
        obtain ⟨oa, oc, rfl, hol, hoc⟩ := (Rd.of_own hown).form
        have hownA := own_below hown ((Below.refl _ _).alloc (Nat.le_refl _) (.cells #[.int .i64 (k : Int)] 3))
        have hlit := Rd.fresh wr #[.int .i64 (k : Int)] 3 1 1 rfl (by decide)
        have hbs := hbw.size
        have hml := hmX.lt
        have hmwr : wornMap (wr.alloc (.cells #[.int .i64 (k : Int)] 3)) mb m M := hmX.alloc _
        have HI := hidep (And.intro hmwr (And.intro hsv (And.intro hbw (And.intro hsuc (show ∀ r, (Value.slice oa (dmgTo L k).length oc).ownBlock = some r → r ≠ mb from fun r hr e => by
          rcases hown.2 with ⟨h1, _⟩ | ⟨g, cap, cur, h1, _, hq, _⟩
          · rw [h1] at hr; cases hr
          · rw [h1] at hr
            injection hr with hr
            subst hr e
            obtain ⟨es, cl, hq2, _⟩ := hmX
            rw [hq] at hq2
            cases hq2)))))
        clear hmX hmwr hsv hbw hsuc hbm hown
        go_wp2_with (first
          | (at_builtin; refine wpList_append_rd _ rfl (.tmp 33) (.tmp 35) rfl slInts w.heap.size _ _ _ rfl hownA _ _ _ _ rfl hlit (by intro u hu; simp at hu; subst hu; rfl) (by unfold maxLen; omega) (by omega) (by simp; omega) ?_; intro v9 w9 ho9 hg9 hd9 hnl9; clear hd9 hnl9)
          | fail)
        have hb9 : Below w.heap.size w w9 := below_own (HI.out.2.2.1.alloc hbs _) hg9 (own_blk hownA) (by simp; omega)
        have hm9 : wornMap w9 mb m M := ownsMap_block HI.out.1 (hg9.block mb (by simp; omega) (fun e => HI.out.2.2.2.2 mb e.symm rfl))
        refine ⟨LoopI.mk rfl ⟨rfl, rfl, rfl, k + 1, m, M, by omega, by omega, by show Value.int _ _ = _; go_num, hm9, HI.out.2.1, by rw [HI.out.2.2.2.1, List.length_append, intsC_snoc']; exact ho9, hb9⟩, ?_⟩
        show x - _ < x - _
        simp [natI]; omega
    · have hkxi : ¬ (k : Int) < (x : Int) := by omega
      have hkx2 : k = x := by omega
      rw [hkx2] at hown
      rw [hkx2]
      clear hkx2 hmX hsv
      go_wp2
      go_ret
      exact ⟨_, rfl, hown, hbw⟩
end Go.Proofs.YtipbkdlekanlmaaGreatDoor
/- Journal: the reference's journal in memory; has, blank, Damaged, Room. -/
namespace Go.Proofs.YtipbkdlekanlmaaGreatDoor
open Go.RowKit Go.Lab Go.Disk Go.Jn
attribute [local go_sem] Oper.semAt_some
set_option maxRecDepth 100000
/-- A journal lies in block b, on what lay not ahead of lo. -/
structure RJIn (w : World) (lo b : Nat) (dv nv bv tv : Value) (j : JZ) : Prop where
  hb : lo ≤ b
  box : w.heap[b]? = some (.cells #[dv, nv, tv, bv, .int .i64 j.next, .int .i64 j.stop, .bool j.closed] 66)
  rn : w.ownsRow lo 3 1 nv j.nums.length (intsC j.nums)
  rb : w.ownsRow lo 3 1 bv j.bad.length (intsC j.bad)
  rt : w.ownsRow lo 9 1 tv j.texts.length (strL j.texts)
  ne : nv.ownBlock = none ∨ nv.ownBlock ≠ bv.ownBlock
  len : j.nums.length ≤ 10000 ∧ j.bad.length ≤ 10000 ∧ j.texts.length ≤ 10000
def RJAt (w : World) (lo : Nat) (p dv : Value) (j : JZ) : Prop := ∃ b nv bv tv, p = .pointer (some ⟨b, 0, none⟩) ∧ RJIn w lo b dv nv bv tv j
theorem RJIn.below {w w' : World} {lo b : Nat} {dv nv bv tv : Value} {j : JZ} (h : RJIn w lo b dv nv bv tv j) (hb : Below w.heap.size w w') : RJIn w' lo b dv nv bv tv j :=
  ⟨h.hb, below_push hb h.box, own_below h.rn hb, own_below h.rb hb, own_below h.rt hb, h.ne, h.len⟩
theorem RJAt.below {w w' : World} {lo : Nat} {p dv : Value} {j : JZ} (h : RJAt w lo p dv j) (hb : Below w.heap.size w w') : RJAt w' lo p dv j := by
  obtain ⟨b, nv, bv, tv, hp, hj⟩ := h
  exact ⟨b, nv, bv, tv, hp, hj.below hb⟩
theorem RJIn.cells {w : World} {lo b : Nat} {dv nv bv tv : Value} {j : JZ} (h : RJIn w lo b dv nv bv tv j) : w.cell? ⟨b, 0, none⟩ = some dv ∧ w.cell? ⟨b, 1, none⟩ = some nv ∧ w.cell? ⟨b, 2, none⟩ = some tv ∧ w.cell? ⟨b, 3, none⟩ = some bv ∧ w.cell? ⟨b, 4, none⟩ = some (.int .i64 j.next) ∧ w.cell? ⟨b, 5, none⟩ = some (.int .i64 j.stop) ∧ w.cell? ⟨b, 6, none⟩ = some (.bool j.closed) :=
  ⟨by simp [World.cell?, h.box], by simp [World.cell?, h.box], by simp [World.cell?, h.box], by simp [World.cell?, h.box], by simp [World.cell?, h.box], by simp [World.cell?, h.box], by simp [World.cell?, h.box]⟩
/-- A journal whose box is old and whose rows have grown. -/
structure RJMid (w : World) (lo b : Nat) (dv nv bv tv nv' tv' : Value) (j : JZ) (nl : List Int) (tl : List ByteArray) : Prop where
  hb : lo ≤ b
  box : w.heap[b]? = some (.cells #[dv, nv, tv, bv, .int .i64 j.next, .int .i64 j.stop, .bool j.closed] 66)
  rn : w.ownsRow lo 3 1 nv' nl.length (intsC nl)
  rb : w.ownsRow lo 3 1 bv j.bad.length (intsC j.bad)
  rt : w.ownsRow lo 9 1 tv' tl.length (strL tl)
  ne : nv'.ownBlock = none ∨ nv'.ownBlock ≠ bv.ownBlock
  len : nl.length ≤ 10000 ∧ j.bad.length ≤ 10000 ∧ tl.length ≤ 10000
section
variable {w w' : World} {lo b : Nat} {dv nv bv tv nv' tv' : Value} {j : JZ} {nl : List Int} {tl : List ByteArray}
theorem RJIn.mid (h : RJIn w lo b dv nv bv tv j) : RJMid w lo b dv nv bv tv nv tv j j.nums j.texts := ⟨h.hb, h.box, h.rn, h.rb, h.rt, h.ne, h.len⟩
theorem RJMid.below (h : RJMid w lo b dv nv bv tv nv' tv' j nl tl) (hb : Below w.heap.size w w') : RJMid w' lo b dv nv bv tv nv' tv' j nl tl :=
  ⟨h.hb, below_push hb h.box, own_below h.rn hb, own_below h.rb hb, own_below h.rt hb, h.ne, h.len⟩
theorem RJMid.push_n (h : RJMid w lo b dv nv bv tv nv' tv' j nl tl) {v : Value} {x : Int} (ho : w'.ownsRow lo 3 1 v (nl.length + 1) (intsC nl ++ [.int .i64 x])) (hg : w.grownBy w' nv'.ownBlock)
    (hd : v.ownBlock = nv'.ownBlock ∨ v.ownBlock = some w.heap.size) (hl : nl.length + 1 ≤ 10000) : RJMid w' lo b dv nv bv tv v tv' j (nl ++ [x]) tl := by
  have hnb : bv.ownBlock = none ∨ bv.ownBlock ≠ nv'.ownBlock := by
    rcases h.ne with h1 | h1
    · cases hq : bv.ownBlock with
      | none => exact .inl rfl
      | some r => exact .inr (by rw [h1]; intro e; cases e)
    · exact .inr (Ne.symm h1)
  refine ⟨h.hb, grown_other h.rn hg h.box (by decide), by rw [List.length_append, intsC_snoc']; exact ho, own_ne h.rb hg hnb, own_other h.rt h.rn hg (by decide), ?_, by rw [List.length_append]; exact hl, h.len.2⟩
  rcases hd with hd | hd
  · rw [hd]; exact h.ne
  · refine .inr (fun e => ?_)
    have := h.rb.lt w.heap.size (by rw [← e]; exact hd)
    omega
theorem RJMid.push_t (h : RJMid w lo b dv nv bv tv nv' tv' j nl tl) {v : Value} {x : ByteArray} (ho : w'.ownsRow lo 9 1 v (tl.length + 1) (strL tl ++ [.string x])) (hg : w.grownBy w' tv'.ownBlock) (hl : tl.length + 1 ≤ 10000) :
    RJMid w' lo b dv nv bv tv nv' v j nl (tl ++ [x]) :=
  ⟨h.hb, grown_other h.rt hg h.box (by decide), own_other h.rn h.rt hg (by decide), own_other h.rb h.rt hg (by decide), by rw [List.length_append, strL_snoc]; exact ho, h.ne, h.len.1, h.len.2.1, by rw [List.length_append]; exact hl⟩
theorem RJMid.done (h : RJMid w lo b dv nv bv tv nv' tv' j nl tl) : RJIn ((w.setCell ⟨b, 1, none⟩ nv').setCell ⟨b, 2, none⟩ tv') lo b dv nv' bv tv' { j with nums := nl, texts := tl } := by
  have h1 := heap_set h.box 1 nv'
  have h2 := heap_set h1 2 tv'
  exact ⟨h.hb, h2, own_boxt (own_boxt h.rn h.box (by decide) 1 _) h1 (by decide) 2 _, own_boxt (own_boxt h.rb h.box (by decide) 1 _) h1 (by decide) 2 _, own_boxt (own_boxt h.rt h.box (by decide) 1 _) h1 (by decide) 2 _, h.ne, h.len⟩
theorem RJMid.done' {w : World} {lo b : Nat} (h : RJMid w lo b dv nv bv tv nv' tv' j nl tl) : RJIn ((w.setCell ⟨b, 2, none⟩ tv').setCell ⟨b, 1, none⟩ nv') lo b dv nv' bv tv' { j with nums := nl, texts := tl } := by
  have h1 := heap_set h.box 2 tv'
  have h2 := heap_set h1 1 nv'
  exact ⟨h.hb, h2, own_boxt (own_boxt h.rn h.box (by decide) 2 _) h1 (by decide) 1 _, own_boxt (own_boxt h.rb h.box (by decide) 2 _) h1 (by decide) 1 _, own_boxt (own_boxt h.rt h.box (by decide) 2 _) h1 (by decide) 1 _, h.ne, h.len⟩
theorem RJIn.grown (h : RJIn w lo b dv nv bv tv j) {B e k n : Nat} {v : Value} {xs : List Value} (ho : w.ownsRow B e k v n xs) (hg : w.grownBy w' v.ownBlock) (h1 : e ≠ 3) (h2 : e ≠ 9) (h3 : e ≠ 66) : RJIn w' lo b dv nv bv tv j :=
  ⟨h.hb, grown_other ho hg h.box h3.symm, own_other h.rn ho hg h1.symm, own_other h.rb ho hg h1.symm, own_other h.rt ho hg h2.symm, h.ne, h.len⟩
theorem RJIn.stop (h : RJIn w lo b dv nv bv tv j) (x : Int) : RJIn (w.setCell ⟨b, 5, none⟩ (.int .i64 x)) lo b dv nv bv tv { j with stop := x } :=
  ⟨h.hb, heap_set h.box 5 _, own_boxt h.rn h.box (by decide) 5 _, own_boxt h.rb h.box (by decide) 5 _, own_boxt h.rt h.box (by decide) 5 _, h.ne, h.len⟩
theorem RJIn.nxt (h : RJIn w lo b dv nv bv tv j) (x : Int) : RJIn (w.setCell ⟨b, 4, none⟩ (.int .i64 x)) lo b dv nv bv tv { j with next := x } :=
  ⟨h.hb, heap_set h.box 4 _, own_boxt h.rn h.box (by decide) 4 _, own_boxt h.rb h.box (by decide) 4 _, own_boxt h.rt h.box (by decide) 4 _, h.ne, h.len⟩
theorem RJIn.shut (h : RJIn w lo b dv nv bv tv j) (x : Bool) : RJIn (w.setCell ⟨b, 6, none⟩ (.bool x)) lo b dv nv bv tv { j with closed := x } :=
  ⟨h.hb, heap_set h.box 6 _, own_boxt h.rn h.box (by decide) 6 _, own_boxt h.rb h.box (by decide) 6 _, own_boxt h.rt h.box (by decide) 6 _, h.ne, h.len⟩
theorem RJIn.push_bad (h : RJIn w lo b dv nv bv tv j) {v : Value} {x : Int} (ho : w'.ownsRow lo 3 1 v (j.bad.length + 1) (intsC j.bad ++ [.int .i64 x])) (hg : w.grownBy w' bv.ownBlock)
    (hd : v.ownBlock = bv.ownBlock ∨ v.ownBlock = some w.heap.size) (hl : j.bad.length + 1 ≤ 10000) : RJIn (w'.setCell ⟨b, 3, none⟩ v) lo b dv nv v tv { j with bad := j.bad ++ [x] } := by
  have hbx := grown_other h.rb hg h.box (by decide)
  refine ⟨h.hb, heap_set hbx 3 _, own_boxt (own_ne h.rn hg h.ne) hbx (by decide) 3 _, ?_, own_boxt (own_other h.rt h.rb hg (by decide)) hbx (by decide) 3 _, ?_, h.len.1, ?_, h.len.2.2⟩
  · show World.ownsRow _ lo 3 1 v (j.bad ++ [x]).length (intsC (j.bad ++ [x]))
    rw [List.length_append, intsC_snoc']
    exact own_boxt ho hbx (by decide) 3 _
  · rcases hd with hd | hd
    · rw [hd]; exact h.ne
    · rcases h.ne with h1 | h1
      · exact .inl h1
      · refine .inr (fun e => ?_)
        have := h.rn.lt w.heap.size (by rw [e]; exact hd)
        omega
  · show (j.bad ++ [x]).length ≤ 10000
    rw [List.length_append]
    exact hl
end
/-- A journal whose blocks are all among B. -/
def RJOn (B : Nat → Prop) (w : World) (lo : Nat) (p dv : Value) (j : JZ) : Prop := ∃ b nv bv tv, p = .pointer (some ⟨b, 0, none⟩) ∧ RJIn w lo b dv nv bv tv j ∧ B b ∧ (∀ x, nv.ownBlock = some x → B x) ∧ (∀ x, bv.ownBlock = some x → B x) ∧ (∀ x, tv.ownBlock = some x → B x)
theorem RJOn.at {B : Nat → Prop} {w : World} {lo : Nat} {p dv : Value} {j : JZ} (h : RJOn B w lo p dv j) : RJAt w lo p dv j := by
  obtain ⟨b, nv, bv, tv, hp, hj, _⟩ := h
  exact ⟨b, nv, bv, tv, hp, hj⟩
theorem RJAt.on {w : World} {lo : Nat} {p dv : Value} {j : JZ} (h : RJAt w lo p dv j) : RJOn (fun x => lo ≤ x ∧ x < w.heap.size) w lo p dv j := by
  obtain ⟨b, nv, bv, tv, hp, hj⟩ := h
  exact ⟨b, nv, bv, tv, hp, hj, ⟨hj.hb, lt_of_block hj.box⟩, fun x hx => hj.rn.lt x hx, fun x hx => hj.rb.lt x hx, fun x hx => hj.rt.lt x hx⟩
theorem RJOn.mono {B B' : Nat → Prop} {w : World} {lo : Nat} {p dv : Value} {j : JZ} (h : RJOn B w lo p dv j) (hB : ∀ x, B x → B' x) : RJOn B' w lo p dv j := by
  obtain ⟨b, nv, bv, tv, hp, hj, h1, h2, h3, h4⟩ := h
  exact ⟨b, nv, bv, tv, hp, hj, hB _ h1, fun x hx => hB _ (h2 x hx), fun x hx => hB _ (h3 x hx), fun x hx => hB _ (h4 x hx)⟩
theorem RJOn.turned {B T : Nat → Prop} {w w' : World} {lo : Nat} {p dv : Value} {j : JZ} (h : RJOn B w lo p dv j) (hT : Turned T w w') (hB : ∀ x, B x → ¬ T x) : RJOn B w' lo p dv j := by
  obtain ⟨b, nv, bv, tv, hp, hj, h1, h2, h3, h4⟩ := h
  exact ⟨b, nv, bv, tv, hp, ⟨hj.hb, hT.cells hj.box (hB _ h1), ownsRow_turned hj.rn hT (fun g hg => hB _ (h2 g hg)), ownsRow_turned hj.rb hT (fun g hg => hB _ (h3 g hg)), ownsRow_turned hj.rt hT (fun g hg => hB _ (h4 g hg)), hj.ne, hj.len⟩, h1, h2, h3, h4⟩
theorem RJOn.below {B : Nat → Prop} {w w' : World} {lo : Nat} {p dv : Value} {j : JZ} (h : RJOn B w lo p dv j) (hb : Below w.heap.size w w') : RJOn B w' lo p dv j := h.turned (Turned.of_below (T := fun _ => False) hb) (fun _ _ h => h)
theorem RJIn.turn {w w' : World} {lo b dlo dhi : Nat} {dv nv bv tv : Value} {j : JZ} (h : RJIn w lo b dv nv bv tv j) (hT : Turn dlo dhi w w') (hd : dhi ≤ lo) : RJIn w' lo b dv nv bv tv j :=
  ⟨h.hb, (hT.block b (lt_of_block h.box) (by have := h.hb; omega)).trans h.box, own_turn h.rn hT hd, own_turn h.rb hT hd, own_turn h.rt hT hd, h.ne, h.len⟩
theorem RJOn.cap {B : Nat → Prop} {w : World} {lo : Nat} {p dv : Value} {j : JZ} (h : RJOn B w lo p dv j) : RJOn (fun x => B x ∧ x < w.heap.size) w lo p dv j := by
  obtain ⟨b, nv, bv, tv, hp, hj, h1, h2, h3, h4⟩ := h
  exact ⟨b, nv, bv, tv, hp, hj, ⟨h1, lt_of_block hj.box⟩, fun x hx => ⟨h2 x hx, (hj.rn.lt x hx).2⟩, fun x hx => ⟨h3 x hx, (hj.rb.lt x hx).2⟩, fun x hx => ⟨h4 x hx, (hj.rt.lt x hx).2⟩⟩
theorem rjat_ptr {w : World} {lo : Nat} {p dv : Value} {j : JZ} (h : RJAt w lo p dv j) : ∃ b, p = .pointer (some ⟨b, 0, none⟩) := by
  obtain ⟨b, nv, bv, tv, hp, _⟩ := h
  exact ⟨b, hp⟩
def HaI (l : List Int) (n : Nat) (x : Int) (w : World) (iv : Value) (wr : World) : Prop := ∃ i : Nat, i ≤ n ∧ iv = .int .i64 (i : Nat) ∧ x ∉ l.take i ∧ wr = w
set_option maxHeartbeats 2000000 in
theorem RDiskAt.ok' {w : World} {lo hi : Nat} {p : Value} {D : Dk} (h : RDiskAt w lo hi p D) : D.Ok := by
  obtain ⟨b, g, c, hp, h⟩ := h
  exact h.ok
theorem has_any (v : Value) (l : List Int) (x : Int) (w : World) (h : NumsAt w v l) (hn : l.length ≤ 100000) : Calls Tryz.prog 57 #[v, .int .i64 x] w fun e w' => e = .returned (.bool (decide (x ∈ l))) ∧ w' = w := by
  obtain ⟨a, c, rfl, hc, hm⟩ := h.form
  unfold maxLen at hm
  obtain ⟨n, hnd⟩ : ∃ n, n = l.length := ⟨_, rfl⟩
  rw [← hnd] at hc hn ⊢
  have HN := hidep hnd
  have H := hidep h
  clear hnd h
  go_enter Tryz.func57, Tryz.ntmps57
  go_upto_region 2 with (fail)
  refine wp_loop (LoopI 18 (fun tm ds wr => (slot tm 0) = .slice a n c ∧ (slot tm 1) = .int .i64 x ∧ ds = [] ∧ HaI l n x w (slot tm 5) wr)) (fun a' wr => n - natI (a'.tmps.getD 5 undef)) ?mainStart ?mainRound
  case' mainStart => refine LoopI.mk rfl ?_
  case' mainRound => (rintro ⟨t, ds⟩ wr ⟨hts, hrel⟩; dsimp only at hts hrel; rw [frame18 t ds hts])
  case mainStart => exact ⟨rfl, rfl, rfl, 0, Nat.zero_le _, rfl, by simp, rfl⟩
  obtain ⟨e0, e1, hds, i, hi, e5, hno, rfl⟩ := hrel
  subst hds
  rw [e0, e1, e5]
  clear e0 e1 e5 hts
  by_cases hin : i < n
  · have hini : (i : Int) < (n : Int) := by omega
    have hi0 : (0 : Int) ≤ (i : Int) := by omega
    have hil : i < l.length := by rw [← HN.out]; exact hin
    obtain ⟨g, o, rfl, hg, hcell⟩ := H.out.at (by omega)
    have hci := hcell i (.int .i64 l[i]) (by simp [intsC, hil])
    obtain ⟨y, hy⟩ : ∃ y, y = l[i] := ⟨_, rfl⟩
    rw [← hy] at hci
    by_cases hxy : y = x
    · have hmem : x ∈ l := by rw [← hxy, hy]; exact List.getElem_mem hil
      have HM := hidep (decide_eq_true hmem)
      have g1 : (y == x) = true := by simp [hxy]
      clear hy hno hcell hmem hxy
      go_wp2
      go_ret
      exact ⟨by rw [HM.out]; rfl, rfl⟩
    · have HNO := hidep (show x ∉ l.take (i + 1) from by
        rw [take_succI l i hil, List.mem_append]
        rintro (h | h)
        · exact hno h
        · exact hxy (by rw [hy, List.mem_singleton.1 h]))
      have g1 : (y == x) = false := by simp [hxy]
      clear hy hno hcell hxy
      go_wp2
      refine ⟨LoopI.mk rfl ⟨rfl, rfl, rfl, i + 1, by omega, by show Value.int _ _ = _; go_num, HNO.out, rfl⟩, ?_⟩
      show n - _ < n - _
      simp [natI]; omega
  · have hini : ¬ (i : Int) < (n : Int) := by omega
    have hin2 : i = n := by omega
    rw [hin2, HN.out, List.take_length] at hno
    have HM := hidep (decide_eq_false hno)
    clear hno hin2 hi
    go_wp2
    go_ret
    exact ⟨by rw [HM.out]; rfl, rfl⟩
theorem blank_nums (s : ByteArray) : blankZ s = decide (nums s = List.replicate 64 0) := by
  unfold blankZ
  have hz : nums zeros = List.replicate 64 0 := by decide
  congr 1
  exact propext ⟨fun e => by rw [e, hz], fun e => nums_inj (e.trans hz.symm)⟩
def BlI (s : ByteArray) (w : World) (iv : Value) (wr : World) : Prop := ∃ i : Nat, i ≤ 64 ∧ iv = .int .i64 (i : Nat) ∧ (nums s).take i = List.replicate i 0 ∧ wr = w
set_option maxHeartbeats 2000000 in
theorem blankR_any (s : ByteArray) (w : World) (hs : s.size = 64) : Calls Tryz.prog 55 #[.string s] w fun e w' => e = .returned (.bool (blankZ s)) ∧ w' = w := by
  rw [blank_nums s]
  obtain ⟨bz, hbz⟩ : ∃ bz, bz = decide (nums s = List.replicate 64 0) := ⟨_, rfl⟩
  rw [← hbz]
  have HBZ := hidep hbz
  clear hbz
  have hl64 : (nums s).length = 64 := by rw [nums_len, hs]
  go_enter Tryz.func55, Tryz.ntmps55
  go_upto_region 2 with (fail)
  go_loopw [3] (fun iv wr => BlI s w iv wr) (fun iv _ => 64 - (RowKit.intOf iv).toNat)
  case atStart => exact ⟨0, by omega, rfl, rfl, rfl⟩
  case round =>
    obtain ⟨i, hi, rfl, hz, rfl⟩ := hrel
    by_cases hi64 : i < 64
    · have his : i < s.size := by omega
      have hisi : (i : Int) < (s.size : Int) := by omega
      have hpos : (0 : Int) ≤ (i : Int) := by omega
      have hat := str_at s i his
      have hgu : getU (nums s) i = (nums s)[i] := by
        unfold getU
        rw [List.getD_eq_getElem?_getD, List.getElem?_eq_getElem (by omega)]
        rfl
      rw [hgu] at hat
      obtain ⟨y, hy⟩ : ∃ y, y = (nums s)[i] := ⟨_, rfl⟩
      rw [← hy] at hat
      by_cases hy0 : y = 0
      · have g1 : (y != 0) = false := by simp [hy0]
        have g2 : (y == 0) = true := by simp [hy0]
        have HZ := hidep (show (nums s).take (i + 1) = List.replicate (i + 1) 0 from by
          rw [take_succI _ i (by omega), hz, ← hy, hy0, List.replicate_succ'])
        clear hy hy0 hgu hz
        go_wp2
        go_roundw
        case rel => exact ⟨i + 1, by omega, by go_num, HZ.out, rfl⟩
        case measure => simp [RowKit.intOf]; omega
      · have g1 : (y != 0) = true := by simp [hy0]
        have g2 : (y == 0) = false := by simp [hy0]
        have HM := hidep (show decide (nums s = List.replicate 64 0) = false from decide_eq_false (fun e => hy0 (by
          rw [hy]
          have h1 : (nums s)[i]? = some 0 := by rw [e, List.getElem?_replicate, if_pos hi64]
          rw [List.getElem?_eq_getElem (by omega)] at h1
          injection h1)))
        clear hy hy0 hgu hz
        go_wp2
        go_ret
        exact ⟨by rw [HBZ.out, HM.out]; rfl, rfl⟩
    · have hisi : ¬ (i : Int) < (s.size : Int) := by omega
      have hi2 : i = 64 := by omega
      rw [hi2, List.take_of_length_le (by omega)] at hz
      have HM := hidep (decide_eq_true hz)
      clear hz hi2
      go_wp2
      go_ret
      exact ⟨by rw [HBZ.out, HM.out]; rfl, rfl⟩
def DrI (L : List Int) (x : Nat) (w : World) (ov iv : Value) (wr : World) : Prop := ∃ i : Nat, 1 ≤ i ∧ i ≤ x ∧ iv = .int .i64 (i : Nat) ∧ wr.ownsRow w.heap.size 3 1 ov (dmgTo L i).length (intsC (dmgTo L i)) ∧ Below w.heap.size w wr
theorem range_map27 (f : Nat → Value) : (List.range 27).map f = [f 0, f 1, f 2, f 3, f 4, f 5, f 6, f 7, f 8, f 9, f 10, f 11, f 12, f 13, f 14, f 15, f 16, f 17, f 18, f 19, f 20, f 21, f 22, f 23, f 24, f 25, f 26] := rfl
theorem frame27 (t : Array Value) (ds : List Deferred) (h : t.size = 27) : ({ tmps := t, defers := ds } : Act) = { tmps := #[slot t 0, slot t 1, slot t 2, slot t 3, slot t 4, slot t 5, slot t 6, slot t 7, slot t 8, slot t 9, slot t 10, slot t 11, slot t 12, slot t 13, slot t 14, slot t 15, slot t 16, slot t 17, slot t 18, slot t 19, slot t 20, slot t 21, slot t 22, slot t 23, slot t 24, slot t 25, slot t 26], defers := ds } := by
  have e : t = ((List.range 27).map (slot t)).toArray := by
    apply Array.ext
    · simp [h]
    · intro i h1 h2
      simp [slot, Array.getD, h1]
  rw [range_map27] at e
  exact congrArg (fun x => ({ tmps := x, defers := ds } : Act)) e
set_option maxHeartbeats 8000000 in
theorem damagedR_any (p dv : Value) (j : JZ) (w : World) (lo : Nat) (h : RJAt w lo p dv j) (hx : 1 ≤ j.next ∧ j.next ≤ 100000) : Calls Tryz.prog 58 #[p] w fun e w' => ∃ v, e = .returned v ∧ w'.ownsRow w.heap.size 3 1 v (damagedZ j).length (intsC (damagedZ j)) ∧ Below w.heap.size w w' := by
  obtain ⟨b, nv, bv, tv, rfl, hj⟩ := h
  have hcl := hj.cells
  have hrn := (Rd.of_own hj.rn).mono (T' := fun _ => True) (fun _ _ => trivial)
  have hl := hj.len.1
  obtain ⟨L, hL⟩ : ∃ L, L = j.nums := ⟨_, rfl⟩
  obtain ⟨x, hxe⟩ : ∃ x : Nat, j.next = (x : Int) := ⟨j.next.toNat, by omega⟩
  have hdm : damagedZ j = dmgTo L x := by
    unfold damagedZ dmgTo
    rw [hxe, Int.toNat_natCast, hL]
  rw [hdm]
  rw [← hL] at hrn hl
  rw [hxe] at hx
  obtain ⟨na, nc, rfl, hn1, hn2⟩ := hrn.form
  have HC := hidep (fun Y (hY : Below w.heap.size w Y) => And.intro (Turned.cell (Turned.of_below (T := fun _ => False) hY) hcl.2.1 (fun h => h)) (And.intro (Turned.cell (Turned.of_below (T := fun _ => False) hY) hcl.2.2.2.2.1 (fun h => h)) (hrn.below hY)))
  rw [hxe] at HC
  obtain ⟨n, hn⟩ : ∃ n, n = L.length := ⟨_, rfl⟩
  rw [← hn] at HC hn1 hl
  have HL := hidep hn
  have HH := hidep (fun Y (hY : Below w.heap.size w Y) (k : Int) => has_any (.slice na n nc) L k Y (by rw [hn]; have := (HC.out Y hY).2.2; rwa [hn] at this) (by omega))
  have hnil : w.ownsRow w.heap.size 3 1 (.slice none 0 0) (dmgTo L 1).length (intsC (dmgTo L 1)) := ⟨rfl, .inl ⟨rfl, rfl⟩⟩
  clear hj hcl hrn hL hxe hdm hn
  unfold maxLen at hn2
  go_enter Tryz.func58, Tryz.ntmps58
  go_upto_region 3 with (fail)
  refine wp_loop (LoopI 27 (fun tm ds wr => (slot tm 0) = .pointer (some ⟨b, 0, none⟩) ∧ ds = [] ∧ DrI L x w (slot tm 3) (slot tm 4) wr)) (fun a' wr => x - natI (a'.tmps.getD 4 undef)) ?mainStart ?mainRound
  case' mainStart => refine LoopI.mk rfl ?_
  case' mainRound => (rintro ⟨t, ds⟩ wr ⟨hts, hrel⟩; dsimp only at hts hrel; rw [frame27 t ds hts])
  case mainStart => exact ⟨rfl, rfl, 1, Nat.le_refl _, by omega, rfl, hnil, Below.refl _ _⟩
  clear hnil
  obtain ⟨e0, hds, k, hk1, hk2, e4, hown, hbw⟩ := hrel
  subst hds
  obtain ⟨ov, hov⟩ : ∃ ov, ov = slot t 3 := ⟨_, rfl⟩
  rw [← hov] at hown
  rw [e0, e4, ← hov]
  clear e0 e4 hov hts
  obtain ⟨c1, c4, _⟩ := HC.out wr hbw
  have hbs := hbw.size
  by_cases hkx : k < x
  · have hkxi : (k : Int) < (x : Int) := by omega
    have hH := HH.out wr hbw (k : Int)
    have hsuc := dmg_succ L k hk1
    have hdl := dmg_len L k
    obtain ⟨bm, hbm⟩ : ∃ bm, bm = decide ((k : Int) ∈ L) := ⟨_, rfl⟩
    rw [← hbm] at hH
    have HK := hidep hH
    clear hH
    cases bm with
    | true =>
      rw [if_pos (of_decide_eq_true hbm.symm), List.append_nil] at hsuc
      have HI := hidep (And.intro hown (And.intro hbw hsuc))
      clear hown hbw hsuc hbm hdl
      go_wp2_with (first
        | (go_at_call 57; refine HK.out.mono ?_; rintro e w5 ⟨rfl, hw5⟩; rw [hw5]; clear hw5)
        | fail)
      refine ⟨LoopI.mk rfl ⟨rfl, rfl, k + 1, by omega, by omega, by show Value.int _ _ = _; go_num, by rw [HI.out.2.2]; exact HI.out.1, HI.out.2.1⟩, ?_⟩
      show x - _ < x - _
      simp [natI]; omega
    | false =>
      rw [if_neg (of_decide_eq_false hbm.symm)] at hsuc
      obtain ⟨oa, oc, rfl, hol, hoc⟩ := (Rd.of_own hown).form
      have hownA := own_below hown ((Below.refl _ _).alloc (Nat.le_refl _) (.cells #[.int .i64 (k : Int)] 3))
      have hlit := Rd.fresh wr #[.int .i64 (k : Int)] 3 1 1 rfl (by decide)
      have HI := hidep (And.intro hbw hsuc)
      clear hbw hsuc hbm hown
      go_wp2_with (first
        | (go_at_call 57; refine HK.out.mono ?_; rintro e w5 ⟨rfl, hw5⟩; rw [hw5]; clear hw5)
        | (at_builtin; refine wpList_append_rd _ rfl (.tmp 22) (.tmp 24) rfl slInts w.heap.size _ _ _ rfl hownA _ _ _ _ rfl hlit (by intro u hu; simp at hu; subst hu; rfl) (by unfold maxLen; omega) (by omega) (by simp; omega) ?_; intro v9 w9 ho9 hg9 hd9 hnl9; clear hd9 hnl9)
        | fail)
      have hb9 : Below w.heap.size w w9 := below_own (HI.out.1.alloc hbs _) hg9 (own_blk hownA) (by simp; omega)
      refine ⟨LoopI.mk rfl ⟨rfl, rfl, k + 1, by omega, by omega, by show Value.int _ _ = _; go_num, by rw [HI.out.2, List.length_append, intsC_snoc']; exact ho9, hb9⟩, ?_⟩
      show x - _ < x - _
      simp [natI]; omega
  · have hkxi : ¬ (k : Int) < (x : Int) := by omega
    have hkx2 : k = x := by omega
    rw [hkx2] at hown
    rw [hkx2]
    clear hkx2
    go_wp2
    go_ret
    exact ⟨_, rfl, hown, hbw⟩
set_option maxHeartbeats 2000000 in
theorem roomR_any (p dv : Value) (j : JZ) (D : Dk) (w0 : World) (lo dlo dhi : Nat) (h : RJAt w0 lo p dv j) (hd : RDiskAt w0 dlo dhi dv D) (hs : 0 ≤ j.stop ∧ j.stop ≤ 100000) :
    Calls Tryz.prog 59 #[p] w0 fun e w' => e = .returned (.int .i64 (roomZ j D)) ∧ Below w0.heap.size w0 w' := by
  obtain ⟨b, nv, bv, tv, rfl, hj⟩ := h
  have HC := hidep (fun Y (hY : Below w0.heap.size w0 Y) => (hj.below hY).cells)
  have HL := hidep (fun Y (hY : Below w0.heap.size w0 Y) => rlen_any dv D Y dlo dhi (hd.below hY))
  have hD := hd.ok'.1.2.1
  obtain ⟨n, hn⟩ : ∃ n, n = D.s.length := ⟨_, rfl⟩
  have hr : roomZ j D = (n : Int) - j.stop := by rw [hn]; rfl
  rw [← hn] at HL hD
  rw [hr]
  obtain ⟨st, hst⟩ : ∃ st, st = j.stop := ⟨_, rfl⟩
  rw [← hst] at HC hs ⊢
  have hw : IntKind.i64.wrap ((n : Int) - st) = (n : Int) - st := IntWalk.i64_in _ (by omega)
  clear hj hd hn hr hst
  go_enter Tryz.func59, Tryz.ntmps59
  go_upto_region 1 with (fail)
  have hk0 := Below.refl w0.heap.size w0
  refine wp_region_noPanic (wp_region_held_drew (S := (fun Y => Below w0.heap.size w0 Y)) (by kernel_rfl) ?hS59r1n0 (fun hHeld => ?hR59r1n0))
  case hS59r1n0 => ((try dsimp only); (exact hk0.drew))
  refine wpAnyH_take (i := 0) (v := ?v59r1n0q1) rfl (by kernel_rfl) (by kernel_rfl) (by kernel_rfl) (fun _ _ _ h => h) (Or.inl ⟨by kernel_rfl, ?hy59r1n0q1⟩) (by assumption) ?hr59r1n0q1
  case hy59r1n0q1 => (intro w hSw; (try dsimp only at hSw); (obtain ⟨c0, c1, c2, c3, c4, c5, c6⟩ := HC.out w hSw); first | (go_simp; done) | (go_simp; with_reducible rfl))
  refine wpAnyH_take (i := 1) (v := ?v59r1n0q2) rfl (by kernel_rfl) (by kernel_rfl) (by kernel_rfl) (fun _ _ _ h => h) (Or.inl ⟨by kernel_rfl, ?hy59r1n0q2⟩) (by assumption) ?hr59r1n0q2
  case hy59r1n0q2 => (intro w hSw; (try dsimp only at hSw); (obtain ⟨c0, c1, c2, c3, c4, c5, c6⟩ := HC.out w hSw); first | (go_simp; done) | (go_simp; with_reducible rfl))
  refine wpAnyH_take (i := 2) (v := ?v59r1n0q3) rfl (by kernel_rfl) (by kernel_rfl) (by kernel_rfl) (fun _ _ _ h => h) (Or.inl ⟨by kernel_rfl, ?hy59r1n0q3⟩) (by assumption) ?hr59r1n0q3
  case hy59r1n0q3 => (intro w hSw; (try dsimp only at hSw); (obtain ⟨c0, c1, c2, c3, c4, c5, c6⟩ := HC.out w hSw); first | (go_simp; done) | (go_simp; with_reducible rfl))
  refine wpAnyH_take (i := 3) (v := ?v59r1n0q4) rfl (by kernel_rfl) (by kernel_rfl) (by kernel_rfl) (fun _ _ _ h => h) (Or.inl ⟨by kernel_rfl, ?hy59r1n0q4⟩) (by assumption) ?hr59r1n0q4
  case hy59r1n0q4 => (intro w hSw; (try dsimp only at hSw); (obtain ⟨c0, c1, c2, c3, c4, c5, c6⟩ := HC.out w hSw); first | (go_simp; done) | (go_simp; with_reducible rfl))
  refine wpAnyH_take (i := 5) (v := ?v59r1n0q5) rfl (by kernel_rfl) (by kernel_rfl) (by kernel_rfl) (fun _ _ _ h => h) (Or.inl ⟨by kernel_rfl, ?hy59r1n0q5⟩) (by assumption) ?hr59r1n0q5
  case hy59r1n0q5 => (intro w hSw; (try dsimp only at hSw); (obtain ⟨c0, c1, c2, c3, c4, c5, c6⟩ := HC.out w hSw); first | (go_simp; done) | (go_simp; with_reducible rfl))
  refine wpAnyH_take (i := 6) (v := ?v59r1n0q6) rfl (by kernel_rfl) (by kernel_rfl) (by kernel_rfl) (fun _ _ _ h => h) (Or.inl ⟨by kernel_rfl, ?hy59r1n0q6⟩) (by assumption) ?hr59r1n0q6
  case hy59r1n0q6 => (intro w hSw; (try dsimp only at hSw); (obtain ⟨c0, c1, c2, c3, c4, c5, c6⟩ := HC.out w hSw); first | (go_simp; done) | (go_simp; with_reducible rfl))
  refine wpAnyH_take (i := 7) (v := ?v59r1n0q7) rfl (by kernel_rfl) (by kernel_rfl) (by kernel_rfl) (fun _ _ _ h => h) (Or.inl ⟨by kernel_rfl, ?hy59r1n0q7⟩) (by assumption) ?hr59r1n0q7
  case hy59r1n0q7 => (intro w hSw; (try dsimp only at hSw); (obtain ⟨c0, c1, c2, c3, c4, c5, c6⟩ := HC.out w hSw); first | (go_simp; done) | (go_simp; with_reducible rfl))
  refine wpAnyH_take (i := 8) (v := ?v59r1n0q8) rfl (by kernel_rfl) (by kernel_rfl) (by kernel_rfl) (fun _ _ _ h => h) (Or.inl ⟨by kernel_rfl, ?hy59r1n0q8⟩) (by assumption) ?hr59r1n0q8
  case hy59r1n0q8 => (intro w hSw; (try dsimp only at hSw); (obtain ⟨c0, c1, c2, c3, c4, c5, c6⟩ := HC.out w hSw); first | (go_simp; done) | (go_simp; with_reducible rfl))
  refine wpAnyH_ready (rs := [4]) (by kernel_rfl) (by simp) (AllReadyH.cons rfl (fun K hK => ?hc59r1n0q9) AllReadyH.nil)
  go_simp
  (go_at_call 52; refine (HL.out _ hHeld).mono ?_; rintro e w7 ⟨rfl, hw7⟩; rw [← hw7]; clear hw7; have hk := hHeld; (try dsimp only))
  refine hK.out _ _ ?hs59r1n0q9 (fun hHeld59r1n0q9 => ?ht59r1n0q9)
  case hs59r1n0q9 => ((try dsimp only); (exact hHeld))
  clear hHeld hK
  have hHeld := hHeld59r1n0q9
  clear hHeld59r1n0q9
  refine wpAnyH_take (i := 9) (v := ?v59r1n0q10) rfl (by kernel_rfl) (by kernel_rfl) (by kernel_rfl) (fun _ _ _ h => h) (Or.inl ⟨by kernel_rfl, ?hy59r1n0q10⟩) (by assumption) ?hr59r1n0q10
  case hy59r1n0q10 => (intro w hSw; (try dsimp only at hSw); (obtain ⟨c0, c1, c2, c3, c4, c5, c6⟩ := HC.out w hSw); first | (go_simp; done) | (go_simp; with_reducible rfl))
  refine wpAnyH_take (i := 10) (v := ?v59r1n0q11) rfl (by kernel_rfl) (by kernel_rfl) (by kernel_rfl) (fun _ _ _ h => h) (Or.inl ⟨by kernel_rfl, ?hy59r1n0q11⟩) (by assumption) ?hr59r1n0q11
  case hy59r1n0q11 => (intro w hSw; (try dsimp only at hSw); (obtain ⟨c0, c1, c2, c3, c4, c5, c6⟩ := HC.out w hSw); first | (go_simp; done) | (go_simp; with_reducible rfl))
  refine wpAnyH_done (by kernel_rfl) ?_ _
  clear hHeld
  refine NoPanic.normal ?_
  apply_assumption
  refine wp_ret ?_
  show bodyPost Tryz.prog Tryz.f59 (fun e w' => e = .returned (.int .i64 ((n : Int) - st)) ∧ Below w0.heap.size w0 w') Exit.ret _ _
  refine bodyPost_ret (P := Tryz.prog) (fn := Tryz.f59) (results_tmp rfl _ _ _) (by kernel_rfl) ?_
  exact ⟨by kernel_rfl, hk⟩
end Go.Proofs.YtipbkdlekanlmaaGreatDoor
