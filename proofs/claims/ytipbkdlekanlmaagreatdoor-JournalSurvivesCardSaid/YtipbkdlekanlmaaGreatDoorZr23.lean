/- Journal: a journal in memory while it grows; the plain steps of Open. -/
import Derived.Test.YtipbkdlekanlmaaGreatDoorZr22
import Derived.Test.YtipbkdlekanlmaaGreatDoorZr17
import Derived.Test.YtipbkdlekanlmaaGreatDoorZr15
import Derived.Test.YtipbkdlekanlmaaGreatDoorZr20
namespace Go.Proofs.YtipbkdlekanlmaaGreatDoor
open Go.RowKit Go.Lab Go.Disk Go.Jn
attribute [local go_sem] Oper.semAt_some
set_option maxRecDepth 100000
theorem own_ne {W W' : World} {B e k n : Nat} {v : Value} {xs : List Value} (h : W.ownsRow B e k v n xs) {r : Option Nat} (hg : W.grownBy W' r) (hne : v.ownBlock = none ∨ v.ownBlock ≠ r) : W'.ownsRow B e k v n xs := by
  refine ⟨h.1, ?_⟩
  rcases h.2 with h2 | ⟨g, cap, cur, rfl, hg2, hb, r2⟩
  · exact .inl h2
  · refine .inr ⟨g, cap, cur, rfl, hg2, (hg.block g (lt_of_block hb) (fun e => ?_)).trans hb, r2⟩
    rcases hne with h | h
    · cases h
    · exact h e
theorem own_keepsJ {T : TypeId → Prop} {W X : World} {base : Nat} {e : TypeId} {k n : Nat} {v : Value} {xs : List Value} (h : W.ownsRow base e k v n xs) (hk : Keeps T W X) (he : T e) : X.ownsRow base e k v n xs := by
  refine ⟨h.1, ?_⟩
  rcases h.2 with h2 | ⟨g, cap, cur, rfl, hb, hq, r⟩
  · exact .inl h2
  · exact .inr ⟨g, cap, cur, rfl, hb, hk.2 _ _ _ _ he hq, r⟩
theorem own_boxt {W : World} {base k n b : Nat} {e t' : TypeId} {v : Value} {xs : List Value} {cur : Array Value} {fz : Nat × Nat} (h : W.ownsRow base e k v n xs) (hb : W.heap[b]? = some (.cells cur t' fz)) (hne : e ≠ t') (o : Nat) (u : Value) : (W.setCell ⟨b, o, none⟩ u).ownsRow base e k v n xs :=
  own_keepsJ h (Keeps.setCell (T := fun t => t = e) (a := ⟨b, o, none⟩) hb (fun t ht => by rw [ht]; exact hne) u) rfl
theorem below_own {w0 W W' : World} {row : Option Nat} {B : Nat} (h : Below B w0 W) (hg : W.grownBy W' row) (hr : ∀ r, row = some r → B ≤ r) (hB : B ≤ W.heap.size) : Below B w0 W' :=
  h.trans ⟨hg.os, hg.tape, hg.output, hg.size, fun b hb => hg.block b (by omega) (fun e => absurd hb (Nat.not_lt.2 (hr b e.symm)))⟩
theorem own_blk {W : World} {B e k n : Nat} {v : Value} {xs : List Value} (h : W.ownsRow B e k v n xs) : ∀ r, v.ownBlock = some r → B ≤ r := fun r hr => (h.lt r hr).1
/-- A journal whose box is old and whose rows have grown. -/
structure JMid (w : World) (lo b : Nat) (dv nv bv tv nv' tv' : Value) (j : JZ) (nl : List Int) (tl : List ByteArray) : Prop where
  hb : lo ≤ b
  box : w.heap[b]? = some (.cells #[dv, nv, bv, tv, .int .i64 j.next, .int .i64 j.stop, .bool j.closed] 89)
  rn : w.ownsRow lo 3 1 nv' nl.length (intsC nl)
  rb : w.ownsRow lo 3 1 bv j.bad.length (intsC j.bad)
  rt : w.ownsRow lo 9 1 tv' tl.length (strL tl)
  ne : nv'.ownBlock = none ∨ nv'.ownBlock ≠ bv.ownBlock
  len : nl.length ≤ 10000 ∧ j.bad.length ≤ 10000 ∧ tl.length ≤ 10000
section
variable {w w' : World} {lo b : Nat} {dv nv bv tv nv' tv' : Value} {j : JZ} {nl : List Int} {tl : List ByteArray}
theorem JIn.mid (h : JIn w lo b dv nv bv tv j) : JMid w lo b dv nv bv tv nv tv j j.nums j.texts := ⟨h.hb, h.box, h.rn, h.rb, h.rt, h.ne, h.len⟩
theorem JMid.below (h : JMid w lo b dv nv bv tv nv' tv' j nl tl) (hb : Below w.heap.size w w') : JMid w' lo b dv nv bv tv nv' tv' j nl tl :=
  ⟨h.hb, below_push hb h.box, own_below h.rn hb, own_below h.rb hb, own_below h.rt hb, h.ne, h.len⟩
theorem JMid.push_n (h : JMid w lo b dv nv bv tv nv' tv' j nl tl) {v : Value} {x : Int} (ho : w'.ownsRow lo 3 1 v (nl.length + 1) (intsC nl ++ [.int .i64 x])) (hg : w.grownBy w' nv'.ownBlock)
    (hd : v.ownBlock = nv'.ownBlock ∨ v.ownBlock = some w.heap.size) (hl : nl.length + 1 ≤ 10000) : JMid w' lo b dv nv bv tv v tv' j (nl ++ [x]) tl := by
  have hnb : bv.ownBlock = none ∨ bv.ownBlock ≠ nv'.ownBlock := by
    rcases h.ne with h1 | h1
    · cases hq : bv.ownBlock with
      | none => exact .inl rfl
      | some r => exact .inr (by rw [h1]; intro e; cases e)
    · exact .inr (Ne.symm h1)
  refine ⟨h.hb, grown_other h.rn hg h.box (by decide), by rw [List.length_append, intsC_snoc']; exact ho, own_ne h.rb hg hnb, own_other h.rt h.rn hg (by decide), ?_, by rw [List.length_append]; exact hl, h.len.2⟩
  rcases hd with hd | hd
  · rw [hd]; exact h.ne
  · refine .inr (fun e => ?_)
    have := h.rb.lt w.heap.size (by rw [← e]; exact hd)
    omega
theorem strL_snoc (l : List ByteArray) (x : ByteArray) : strL (l ++ [x]) = strL l ++ [.string x] := by simp [strL]
theorem JMid.push_t (h : JMid w lo b dv nv bv tv nv' tv' j nl tl) {v : Value} {x : ByteArray} (ho : w'.ownsRow lo 9 1 v (tl.length + 1) (strL tl ++ [.string x])) (hg : w.grownBy w' tv'.ownBlock) (hl : tl.length + 1 ≤ 10000) :
    JMid w' lo b dv nv bv tv nv' v j nl (tl ++ [x]) :=
  ⟨h.hb, grown_other h.rt hg h.box (by decide), own_other h.rn h.rt hg (by decide), own_other h.rb h.rt hg (by decide), by rw [List.length_append, strL_snoc]; exact ho, h.ne, h.len.1, h.len.2.1, by rw [List.length_append]; exact hl⟩
theorem JMid.done (h : JMid w lo b dv nv bv tv nv' tv' j nl tl) : JIn ((w.setCell ⟨b, 1, none⟩ nv').setCell ⟨b, 3, none⟩ tv') lo b dv nv' bv tv' { j with nums := nl, texts := tl } := by
  have h1 := heap_set h.box 1 nv'
  have h2 := heap_set h1 3 tv'
  exact ⟨h.hb, h2, own_boxt (own_boxt h.rn h.box (by decide) 1 _) h1 (by decide) 3 _, own_boxt (own_boxt h.rb h.box (by decide) 1 _) h1 (by decide) 3 _, own_boxt (own_boxt h.rt h.box (by decide) 1 _) h1 (by decide) 3 _, h.ne, h.len⟩
theorem JIn.grown (h : JIn w lo b dv nv bv tv j) {B e k n : Nat} {v : Value} {xs : List Value} (ho : w.ownsRow B e k v n xs) (hg : w.grownBy w' v.ownBlock) (h1 : e ≠ 3) (h2 : e ≠ 9) (h3 : e ≠ 89) : JIn w' lo b dv nv bv tv j :=
  ⟨h.hb, grown_other ho hg h.box h3.symm, own_other h.rn ho hg h1.symm, own_other h.rb ho hg h1.symm, own_other h.rt ho hg h2.symm, h.ne, h.len⟩
theorem JIn.stop (h : JIn w lo b dv nv bv tv j) (x : Int) : JIn (w.setCell ⟨b, 5, none⟩ (.int .i64 x)) lo b dv nv bv tv { j with stop := x } :=
  ⟨h.hb, heap_set h.box 5 _, own_boxt h.rn h.box (by decide) 5 _, own_boxt h.rb h.box (by decide) 5 _, own_boxt h.rt h.box (by decide) 5 _, h.ne, h.len⟩
theorem JIn.nxt (h : JIn w lo b dv nv bv tv j) (x : Int) : JIn (w.setCell ⟨b, 4, none⟩ (.int .i64 x)) lo b dv nv bv tv { j with next := x } :=
  ⟨h.hb, heap_set h.box 4 _, own_boxt h.rn h.box (by decide) 4 _, own_boxt h.rb h.box (by decide) 4 _, own_boxt h.rt h.box (by decide) 4 _, h.ne, h.len⟩
theorem JIn.shut (h : JIn w lo b dv nv bv tv j) (x : Bool) : JIn (w.setCell ⟨b, 6, none⟩ (.bool x)) lo b dv nv bv tv { j with closed := x } :=
  ⟨h.hb, heap_set h.box 6 _, own_boxt h.rn h.box (by decide) 6 _, own_boxt h.rb h.box (by decide) 6 _, own_boxt h.rt h.box (by decide) 6 _, h.ne, h.len⟩
theorem JIn.push_bad (h : JIn w lo b dv nv bv tv j) {v : Value} {x : Int} (ho : w'.ownsRow lo 3 1 v (j.bad.length + 1) (intsC j.bad ++ [.int .i64 x])) (hg : w.grownBy w' bv.ownBlock)
    (hd : v.ownBlock = bv.ownBlock ∨ v.ownBlock = some w.heap.size) (hl : j.bad.length + 1 ≤ 10000) : JIn (w'.setCell ⟨b, 2, none⟩ v) lo b dv nv v tv { j with bad := j.bad ++ [x] } := by
  have hbx := grown_other h.rb hg h.box (by decide)
  refine ⟨h.hb, heap_set hbx 2 _, own_boxt (own_ne h.rn hg h.ne) hbx (by decide) 2 _, ?_, own_boxt (own_other h.rt h.rb hg (by decide)) hbx (by decide) 2 _, ?_, h.len.1, ?_, h.len.2.2⟩
  · show World.ownsRow _ lo 3 1 v (j.bad ++ [x]).length (intsC (j.bad ++ [x]))
    rw [List.length_append, intsC_snoc']
    exact own_boxt ho hbx (by decide) 2 _
  · rcases hd with hd | hd
    · rw [hd]; exact h.ne
    · rcases h.ne with h1 | h1
      · exact .inl h1
      · refine .inr (fun e => ?_)
        have := h.rn.lt w.heap.size (by rw [e]; exact hd)
        omega
  · show (j.bad ++ [x]).length ≤ 10000
    rw [List.length_append]
    exact hl
end
theorem slParts : SlT Tryz.prog 90 94 (.agg (partC part0)) 5 48 := ⟨by kernel_rfl, by kernel_rfl, rfl, by decide⟩
theorem und_sect : Tryz.prog.underlying 96 = some (.array 64 5) := by kernel_rfl
theorem und_byte : Tryz.prog.underlying 5 = some (.int .u8) := by kernel_rfl
theorem eql_sect (s : ByteArray) (hs : s.size = 64) (w : World) : (binOp .eql 96 (.agg (byC (nums s)).toArray) (.agg (byC (List.replicate 64 0)).toArray)).run Tryz.prog w = .ok (.bool (decide (s = zeros))) w := by
  rw [run_eql_struct, show (10000 : Nat) = (9998 + 1) + 1 from rfl, run_equalIn_arr w (9998 + 1) 1 96 5 64 _ _ und_sect size_byte]
  unfold byC
  rw [run_eqBytes w und_byte 9998 (nums s) (List.replicate 64 0) (by rw [nums_len, hs]; rfl) 64 0 (by rw [nums_len, hs])]
  simp only [Result.andThen_ok, List.drop_zero]
  congr 3
  have hz : nums zeros = List.replicate 64 0 := by decide
  exact propext ⟨fun e => nums_inj (e.trans hz.symm), fun e => by rw [e, hz]⟩
theorem guard_sect (op : BinOp) (x y : Operand) (xs ys : Array Value) (w : World) : (eqGuard op 96 x y (.agg xs) (.agg ys)).run Tryz.prog w = .ok () w :=
  run_eqGuard_agg w op 96 x y xs ys (by kernel_rfl)
/-! ### plain -/
theorem reads_len (D : Dk) : (readsZ D).length = D.s.length := by simp [readsZ]
theorem reads_get (D : Dk) (k : Nat) (h : k < (readsZ D).length) : (readsZ D)[k] = (readZ D (k : Int)).1 := by simp [readsZ]
theorem read_on (D : Dk) (h : D.off = false) (k : Nat) (hk : k < D.s.length) (hok : D.Ok) : (readZ D (k : Int)).2 = 0 ∧ (readZ D (k : Int)).1.size = 64 := by
  have hin : D.isIn (k : Int) = true := by simp [Dk.isIn, hk]
  have hx := hok.1.at hk
  unfold readZ
  rw [if_neg (by rw [h]; decide), if_neg (by rw [hin]; decide), Int.toNat_natCast]
  split
  · rename_i hd
    exact ⟨rfl, hx.2 hd⟩
  · exact ⟨rfl, hx.1⟩
theorem unp_left (s : ByteArray) (h : (unpZ s).ok = true) : (unpZ s).left ≤ 8000 ∧ 1 ≤ (unpZ s).num := by
  have hr := unpZ_rng s
  unfold unpZ at h hr ⊢
  split at h
  · cases h
  · rename_i h1
    rw [if_neg h1] at hr ⊢
    split at h
    · cases h
    · rename_i h2
      rw [if_neg h2] at hr ⊢
      have h3 : ¬ 8000 < 48 * partNo (nums s) + leftZ (nums s) := fun h => h2 (.inr (.inr (.inr (.inl h))))
      have h4 : ¬ numZ (nums s) = 0 := fun h => h2 (.inr (.inl h))
      simp only at hr ⊢
      omega
theorem rec_cnt (l : List PartZ) (h : (recordZ l).2.2 = true) (hl : ∀ p ∈ l, p.ok = true → p.left ≤ 8000) (h0 : ∀ p ∈ l, 0 ≤ p.left) : 1 ≤ (recordZ l).2.1 ∧ (recordZ l).2.1 ≤ (l.length : Int) ∧ (l.headD part0).ok = true := by
  cases l with
  | nil => simp [recordZ, part0] at h
  | cons p r =>
    have hp := hl p (by simp)
    have hp0 := h0 p (by simp)
    have e : recordZ (p :: r) = if p.ok = false ∨ p.part ≠ 0 ∨ ((p :: r).length : Int) < cntZ p.left then (ByteArray.empty, 0, false) else if recAll p 0 ((p :: r).take (cntZ p.left).toNat) = true then (payAll ((p :: r).take (cntZ p.left).toNat), cntZ p.left, true) else (ByteArray.empty, 0, false) := by
      rfl
    show 1 ≤ (recordZ (p :: r)).2.1 ∧ (recordZ (p :: r)).2.1 ≤ _ ∧ p.ok = true
    by_cases hc : p.ok = false ∨ p.part ≠ 0 ∨ ((p :: r).length : Int) < cntZ p.left
    · rw [if_pos hc] at e
      rw [e] at h
      cases h
    · rw [if_neg hc] at e
      by_cases hA : recAll p 0 ((p :: r).take (cntZ p.left).toNat) = true
      · rw [if_pos hA] at e
        rw [e]
        have hok : p.ok = true := by
          cases hq : p.ok with
          | true => rfl
          | false => exact absurd (.inl hq) hc
        have h8 := hp hok
        have hle : ¬ ((p :: r).length : Int) < cntZ p.left := fun h => hc (.inr (.inr h))
        refine ⟨?_, by show cntZ p.left ≤ _; omega, hok⟩
        show 1 ≤ cntZ p.left
        unfold cntZ
        rw [if_neg (by omega)]
        omega
      · rw [if_neg hA] at e
        rw [e] at h
        cases h
end Go.Proofs.YtipbkdlekanlmaaGreatDoor
