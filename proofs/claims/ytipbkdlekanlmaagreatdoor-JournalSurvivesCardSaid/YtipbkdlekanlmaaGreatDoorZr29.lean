/- Journal: the reference's Open. -/
import Derived.Test.YtipbkdlekanlmaaGreatDoorZr26
import Derived.Test.YtipbkdlekanlmaaGreatDoorZr27
import Derived.Test.YtipbkdlekanlmaaGreatDoorZr28
namespace Go.Proofs.YtipbkdlekanlmaaGreatDoor
open Go.RowKit Go.Lab Go.Disk Go.Jn
attribute [local go_sem] Oper.semAt_some
set_option maxRecDepth 100000
theorem range_map189 (f : Nat → Value) : (List.range 189).map f = [f 0, f 1, f 2, f 3, f 4, f 5, f 6, f 7, f 8, f 9, f 10, f 11, f 12, f 13, f 14, f 15, f 16, f 17, f 18, f 19, f 20, f 21, f 22, f 23, f 24, f 25, f 26, f 27, f 28, f 29, f 30, f 31, f 32, f 33, f 34, f 35, f 36, f 37, f 38, f 39, f 40, f 41, f 42, f 43, f 44, f 45, f 46, f 47, f 48, f 49, f 50, f 51, f 52, f 53, f 54, f 55, f 56, f 57, f 58, f 59, f 60, f 61, f 62, f 63, f 64, f 65, f 66, f 67, f 68, f 69, f 70, f 71, f 72, f 73, f 74, f 75, f 76, f 77, f 78, f 79, f 80, f 81, f 82, f 83, f 84, f 85, f 86, f 87, f 88, f 89, f 90, f 91, f 92, f 93, f 94, f 95, f 96, f 97, f 98, f 99, f 100, f 101, f 102, f 103, f 104, f 105, f 106, f 107, f 108, f 109, f 110, f 111, f 112, f 113, f 114, f 115, f 116, f 117, f 118, f 119, f 120, f 121, f 122, f 123, f 124, f 125, f 126, f 127, f 128, f 129, f 130, f 131, f 132, f 133, f 134, f 135, f 136, f 137, f 138, f 139, f 140, f 141, f 142, f 143, f 144, f 145, f 146, f 147, f 148, f 149, f 150, f 151, f 152, f 153, f 154, f 155, f 156, f 157, f 158, f 159, f 160, f 161, f 162, f 163, f 164, f 165, f 166, f 167, f 168, f 169, f 170, f 171, f 172, f 173, f 174, f 175, f 176, f 177, f 178, f 179, f 180, f 181, f 182, f 183, f 184, f 185, f 186, f 187, f 188] := rfl
theorem frame189 (t : Array Value) (ds : List Deferred) (h : t.size = 189) : ({ tmps := t, defers := ds } : Act) = { tmps := #[slot t 0, slot t 1, slot t 2, slot t 3, slot t 4, slot t 5, slot t 6, slot t 7, slot t 8, slot t 9, slot t 10, slot t 11, slot t 12, slot t 13, slot t 14, slot t 15, slot t 16, slot t 17, slot t 18, slot t 19, slot t 20, slot t 21, slot t 22, slot t 23, slot t 24, slot t 25, slot t 26, slot t 27, slot t 28, slot t 29, slot t 30, slot t 31, slot t 32, slot t 33, slot t 34, slot t 35, slot t 36, slot t 37, slot t 38, slot t 39, slot t 40, slot t 41, slot t 42, slot t 43, slot t 44, slot t 45, slot t 46, slot t 47, slot t 48, slot t 49, slot t 50, slot t 51, slot t 52, slot t 53, slot t 54, slot t 55, slot t 56, slot t 57, slot t 58, slot t 59, slot t 60, slot t 61, slot t 62, slot t 63, slot t 64, slot t 65, slot t 66, slot t 67, slot t 68, slot t 69, slot t 70, slot t 71, slot t 72, slot t 73, slot t 74, slot t 75, slot t 76, slot t 77, slot t 78, slot t 79, slot t 80, slot t 81, slot t 82, slot t 83, slot t 84, slot t 85, slot t 86, slot t 87, slot t 88, slot t 89, slot t 90, slot t 91, slot t 92, slot t 93, slot t 94, slot t 95, slot t 96, slot t 97, slot t 98, slot t 99, slot t 100, slot t 101, slot t 102, slot t 103, slot t 104, slot t 105, slot t 106, slot t 107, slot t 108, slot t 109, slot t 110, slot t 111, slot t 112, slot t 113, slot t 114, slot t 115, slot t 116, slot t 117, slot t 118, slot t 119, slot t 120, slot t 121, slot t 122, slot t 123, slot t 124, slot t 125, slot t 126, slot t 127, slot t 128, slot t 129, slot t 130, slot t 131, slot t 132, slot t 133, slot t 134, slot t 135, slot t 136, slot t 137, slot t 138, slot t 139, slot t 140, slot t 141, slot t 142, slot t 143, slot t 144, slot t 145, slot t 146, slot t 147, slot t 148, slot t 149, slot t 150, slot t 151, slot t 152, slot t 153, slot t 154, slot t 155, slot t 156, slot t 157, slot t 158, slot t 159, slot t 160, slot t 161, slot t 162, slot t 163, slot t 164, slot t 165, slot t 166, slot t 167, slot t 168, slot t 169, slot t 170, slot t 171, slot t 172, slot t 173, slot t 174, slot t 175, slot t 176, slot t 177, slot t 178, slot t 179, slot t 180, slot t 181, slot t 182, slot t 183, slot t 184, slot t 185, slot t 186, slot t 187, slot t 188], defers := ds } := by
  have e : t = ((List.range 189).map (slot t)).toArray := by
    apply Array.ext
    · simp [h]
    · intro i h1 h2
      simp [slot, Array.getD, h1]
  rw [range_map189] at e
  exact congrArg (fun x => ({ tmps := x, defers := ds } : Act)) e
theorem slPartsR : SlT Tryz.prog 100 102 (.agg (partC part0)) 5 48 := ⟨by kernel_rfl, by kernel_rfl, rfl, by decide⟩
theorem rdisk_ptr {w : World} {lo hi : Nat} {p : Value} {D : Dk} (h : RDiskAt w lo hi p D) : ∃ q, p = .pointer (some ⟨q, 0, none⟩) := by
  obtain ⟨b, g, c, hp, h⟩ := h
  exact ⟨b, hp⟩
theorem zero_partRo (w : World) : (zeroValue 102).run Tryz.prog w = .ok (.agg (partC part0)) w := by kernel_rfl
/-- The state of the first loop. -/
def ROpI (D : Dk) (n : Nat) (w : World) (J : Nat) (dv pv iv : Value) (wr : World) : Prop := ∃ (k : Nat) (j : JZ) (nv bv tv : Value), k ≤ n ∧ iv = .int .i64 (k : Nat) ∧
  scanAll jz0 0 (readsZ D) = scanAll j k ((readsZ D).drop k) ∧ RJIn wr w.heap.size J dv nv bv tv j ∧ wr.ownsRow w.heap.size 102 5 pv k (partsC (((readsZ D).map unpZ).take k)) ∧
  j.nums = [] ∧ j.texts = [] ∧ j.bad.length ≤ k ∧ j.closed = false ∧ 0 ≤ j.stop ∧ j.stop ≤ (k : Int) ∧ 1 ≤ j.next ∧ j.next ≤ 4097 ∧ Below w.heap.size w wr
/-- The state within a round of the first loop. -/
def ROpM (dv v10 : Value) (J E k : Nat) (bz : Bool) (ps : List Value) (p : PartZ) (w0 : World) (j : JZ) (a : Act) (W : World) : Prop :=
  a.tmps.size = 189 ∧ a.defers = [] ∧ slot a.tmps 0 = dv ∧ slot a.tmps 4 = .pointer (some ⟨J, 0, none⟩) ∧ slot a.tmps 5 = v10 ∧ slot a.tmps 6 = .int .i64 (k : Int) ∧ slot a.tmps 9 = .pointer (some ⟨E, 0, none⟩) ∧ slot a.tmps 10 = .bool bz ∧
  ∃ nv bv tv, RJIn W w0.heap.size J dv nv bv tv j ∧ W.ownsRow w0.heap.size 102 5 v10 (k + 1) ps ∧ W.heap[E]? = some (.cells (partC p) 102) ∧ Below w0.heap.size w0 W
/-- The state of the second loop. -/
def ROpJ (P : List PartZ) (n : Nat) (w : World) (J g c : Nat) (dv : Value) (Z : JZ) (iv : Value) (wr : World) : Prop := ∃ (i f : Nat) (j : JZ) (nv bv tv : Value), i ≤ n ∧ iv = .int .i64 (i : Nat) ∧ n - i < f ∧ recsZ f j (P.drop i) = Z ∧
  RJIn wr w.heap.size J dv nv bv tv j ∧ wr.ownsRow w.heap.size 102 5 (.slice (some ⟨g, 0, none⟩) n c) n (partsC P) ∧ j.nums.length ≤ i ∧ j.texts.length ≤ i ∧ j.bad.length ≤ n ∧ Below w.heap.size w wr
/-- The state of the loop over the sectors of one record. -/
def ROpK (L : List PartZ) (p : PartZ) (wh : Bool) (m : Nat) (w3 : World) (tv bv iv : Value) (wr : World) : Prop := ∃ i : Nat, i ≤ m ∧ (wh = false → i = 0) ∧ iv = .int .i64 (i : Nat) ∧ tv = .string (payAll (L.take i)) ∧ bv = .bool (wh && recAll p 0 (L.take i)) ∧ Below w3.heap.size w3 wr
/-- Is it whole so far? -/
def ROpW (J g c F n i m : Nat) (wh : Bool) (X : World) (a : Act) (W : World) : Prop :=
  a.tmps.size = 189 ∧ a.defers = [] ∧ slot a.tmps 4 = .pointer (some ⟨J, 0, none⟩) ∧ slot a.tmps 5 = .slice (some ⟨g, 0, none⟩) n c ∧ slot a.tmps 11 = .int .i64 (i : Int) ∧ slot a.tmps 12 = .pointer (some ⟨F, 0, none⟩) ∧ slot a.tmps 13 = .int .i64 (m : Nat) ∧ slot a.tmps 14 = .string ByteArray.empty ∧ slot a.tmps 15 = .bool wh ∧ W = X
/-- Is it whole with one more sector? -/
def ROpX (J g c F G n i m l : Nat) (tx : ByteArray) (x : Bool) (Y : World) (a : Act) (W : World) : Prop :=
  a.tmps.size = 189 ∧ a.defers = [] ∧ slot a.tmps 4 = .pointer (some ⟨J, 0, none⟩) ∧ slot a.tmps 5 = .slice (some ⟨g, 0, none⟩) n c ∧ slot a.tmps 11 = .int .i64 (i : Int) ∧ slot a.tmps 12 = .pointer (some ⟨F, 0, none⟩) ∧ slot a.tmps 13 = .int .i64 (m : Nat) ∧ slot a.tmps 14 = .string tx ∧ slot a.tmps 15 = .bool x ∧ slot a.tmps 16 = .int .i64 (l : Int) ∧ slot a.tmps 17 = .pointer (some ⟨G, 0, none⟩) ∧ W = Y
theorem rec_of (p : PartZ) (r : List PartZ) : recordZ (p :: r) = if (p.ok && (decide (p.part = 0) && decide (cntZ p.left ≤ ((p :: r).length : Int)))) = true ∧ recAll p 0 ((p :: r).take (cntZ p.left).toNat) = true then (payAll ((p :: r).take (cntZ p.left).toNat), cntZ p.left, true) else (ByteArray.empty, 0, false) := by
  have e : recordZ (p :: r) = if p.ok = false ∨ p.part ≠ 0 ∨ ((p :: r).length : Int) < cntZ p.left then (ByteArray.empty, 0, false) else if recAll p 0 ((p :: r).take (cntZ p.left).toNat) = true then (payAll ((p :: r).take (cntZ p.left).toNat), cntZ p.left, true) else (ByteArray.empty, 0, false) := rfl
  rw [e]
  by_cases h1 : p.ok = false ∨ p.part ≠ 0 ∨ ((p :: r).length : Int) < cntZ p.left
  · rw [if_pos h1, if_neg]
    rintro ⟨h2, _⟩
    simp only [Bool.and_eq_true, decide_eq_true_eq] at h2
    rcases h1 with h | h | h
    · rw [h] at h2; exact absurd h2.1 (by decide)
    · exact h h2.2.1
    · omega
  · rw [if_neg h1]
    have h2 : (p.ok && (decide (p.part = 0) && decide (cntZ p.left ≤ ((p :: r).length : Int)))) = true := by
      simp only [Bool.and_eq_true, decide_eq_true_eq]
      refine ⟨?_, ?_, ?_⟩
      · cases hq : p.ok with
        | true => rfl
        | false => exact absurd (.inl hq) h1
      · by_cases hq : p.part = 0
        · exact hq
        · exact absurd (.inr (.inl hq)) h1
      · by_cases hq : ((p :: r).length : Int) < cntZ p.left
        · exact absurd (.inr (.inr hq)) h1
        · omega
    by_cases h3 : recAll p 0 ((p :: r).take (cntZ p.left).toNat) = true
    · rw [if_pos h3, if_pos ⟨h2, h3⟩]
    · rw [if_neg h3, if_neg (fun h => h3 h.2)]
theorem RJMid.done1 {w : World} {lo b : Nat} {dv nv bv tv nv' : Value} {j : JZ} {nl : List Int} {tl : List ByteArray} (h : RJMid w lo b dv nv bv tv nv' tv j nl tl) : RJIn (w.setCell ⟨b, 1, none⟩ nv') lo b dv nv' bv tv { j with nums := nl, texts := tl } :=
  ⟨h.hb, heap_set h.box 1 _, own_boxt h.rn h.box (by decide) 1 _, own_boxt h.rb h.box (by decide) 1 _, own_boxt h.rt h.box (by decide) 1 _, h.ne, h.len⟩
theorem RJMid.done2 {w : World} {lo b : Nat} {dv nv bv tv tv' : Value} {j : JZ} {nl : List Int} {tl : List ByteArray} (h : RJMid w lo b dv nv bv tv nv tv' j nl tl) : RJIn (w.setCell ⟨b, 2, none⟩ tv') lo b dv nv bv tv' { j with nums := nl, texts := tl } :=
  ⟨h.hb, heap_set h.box 2 _, own_boxt h.rn h.box (by decide) 2 _, own_boxt h.rb h.box (by decide) 2 _, own_boxt h.rt h.box (by decide) 2 _, h.ne, h.len⟩
/-- What stands while a record that was found is put into the journal. -/
structure ROpS (lo J g c F n : Nat) (p : PartZ) (dv nv bv tv nv' tv' : Value) (P : List PartZ) (j : JZ) (nl : List Int) (tl : List ByteArray) (w0 X : World) : Prop where
  mid : RJMid X lo J dv nv bv tv nv' tv' j nl tl
  row : X.ownsRow lo 102 5 (.slice (some ⟨g, 0, none⟩) n c) n (partsC P)
  bel : Below lo w0 X
  box : X.heap[F]? = some (.cells (partC p) 102)
section
variable {lo J g c F n : Nat} {p : PartZ} {dv nv bv tv nv' tv' : Value} {P : List PartZ} {j : JZ} {nl : List Int} {tl : List ByteArray} {w0 X X' : World}
theorem ROpS.low (h : ROpS lo J g c F n p dv nv bv tv nv' tv' P j nl tl w0 X) : lo ≤ X.heap.size := by
  have h1 := h.mid.hb
  have h2 := lt_of_block h.mid.box
  omega
theorem ROpS.below (h : ROpS lo J g c F n p dv nv bv tv nv' tv' P j nl tl w0 X) (hb : Below X.heap.size X X') : ROpS lo J g c F n p dv nv bv tv nv' tv' P j nl tl w0 X' :=
  ⟨h.mid.below hb, own_below h.row hb, h.bel.trans (hb.mono h.low), below_push hb h.box⟩
theorem ROpS.push_n (h : ROpS lo J g c F n p dv nv bv tv nv' tv' P j nl tl w0 X) {v : Value} {x : Int} (ho : X'.ownsRow lo 3 1 v (nl.length + 1) (intsC nl ++ [.int .i64 x])) (hg : X.grownBy X' nv'.ownBlock)
    (hd : v.ownBlock = nv'.ownBlock ∨ v.ownBlock = some X.heap.size) (hl : nl.length + 1 ≤ 10000) : ROpS lo J g c F n p dv nv bv tv v tv' P j (nl ++ [x]) tl w0 X' :=
  ⟨h.mid.push_n ho hg hd hl, own_other h.row h.mid.rn hg (by decide), below_own h.bel hg (own_blk h.mid.rn) h.low, grown_other h.mid.rn hg h.box (by decide)⟩
theorem ROpS.push_t (h : ROpS lo J g c F n p dv nv bv tv nv' tv' P j nl tl w0 X) {v : Value} {x : ByteArray} (ho : X'.ownsRow lo 9 1 v (tl.length + 1) (strL tl ++ [.string x])) (hg : X.grownBy X' tv'.ownBlock)
    (hl : tl.length + 1 ≤ 10000) : ROpS lo J g c F n p dv nv bv tv nv' v P j nl (tl ++ [x]) w0 X' :=
  ⟨h.mid.push_t ho hg hl, own_other h.row h.mid.rt hg (by decide), below_own h.bel hg (own_blk h.mid.rt) h.low, grown_other h.mid.rt hg h.box (by decide)⟩
end
set_option maxHeartbeats 8000000 in
theorem openR_any (dv : Value) (D : Dk) (w : World) (dlo dhi : Nat) (hd : RDiskAt w dlo dhi dv D) (hoff : D.off = false) (hk : w.rangeAt 0 0 (u32C ks0)) :
    Calls Tryz.prog 13 #[dv] w fun e w' => ∃ p, e = .returned (.tuple #[p, .int .i64 0]) ∧ RJAt w' w.heap.size p dv (openZ D) ∧ Below w.heap.size w w' := by
  obtain ⟨q, rfl⟩ := rdisk_ptr hd
  obtain ⟨dv, hdv⟩ : ∃ dv, dv = Value.pointer (some ⟨q, 0, none⟩) := ⟨_, rfl⟩
  rw [← hdv] at hd
  have HDV := hidep hdv
  have HL := hidep (fun Y (hY : Below w.heap.size w Y) => rlen_any dv D Y dlo dhi (hd.below hY))
  obtain ⟨n, hn⟩ : ∃ n, n = D.s.length := ⟨_, rfl⟩
  have hok := hd.ok'
  have HRD := hidep (show ∀ Y, Below w.heap.size w Y → ∀ k (hk : k < (readsZ D).length), (readsZ D)[k].size = 64 ∧ Calls Tryz.prog 53 #[dv, .int .i64 (k : Int)] Y fun e w' => e = .returned (.tuple #[.string (readsZ D)[k], .int .i64 0]) ∧ Y = w' from fun Y hY k hk => by
    have hk2 : k < D.s.length := by rw [← reads_len]; exact hk
    have h1 := read_on D hoff k hk2 hok
    have h2 := rread_any dv D (k : Int) Y dlo dhi (hd.below hY)
    rw [h1.1] at h2
    rw [reads_get]
    exact ⟨h1.2, h2⟩)
  have hn1 := hok.1.1
  have hn2 := hok.1.2.1
  rw [← hn] at HL hn1 hn2
  have HN := hidep (show (readsZ D).length = n by rw [reads_len, hn])
  have HK := hidep hk
  clear hn hd hoff hok hk
  go_enter Tryz.func13, Tryz.ntmps13
  go_upto_region 2 with (fail)
  refine wp_abs (fun X => X.heap[w.heap.size]? = some (.cells #[dv, .slice none 0 0, .slice none 0 0, .slice none 0 0, .int .i64 1, .int .i64 0, .bool false] 66) ∧ Below w.heap.size w X) ⟨by rw [hdv]; exact heap_alloc_new _ _, (Below.refl _ _).alloc (Nat.le_refl _) _⟩ ?_
  rintro X ⟨hqJ, hbX⟩
  obtain ⟨J, hJ⟩ : ∃ J, J = w.heap.size := ⟨_, rfl⟩
  rw [← hJ] at hqJ
  have hJle : w.heap.size ≤ J := by omega
  refine wp_cutA 189 (fun tm ds => ds = [] ∧ slot tm 0 = dv ∧ slot tm 4 = .pointer (some ⟨J, 0, none⟩)) (by kernel_rfl) (by exact ⟨by kernel_rfl, by rw [hdv]; kernel_rfl, by rw [hJ]; kernel_rfl⟩) ?_
  rintro tA dA h189 ⟨rfl, e0, e4⟩
  rw [frame189 tA [] h189, e0, e4]
  clear h189 e0 e4 hdv hJ
  go_upto_region 4 with (fail)
  refine wp_loop (LoopI 189 (fun tm ds wr => (slot tm 0) = dv ∧ (slot tm 4) = .pointer (some ⟨J, 0, none⟩) ∧ ds = [] ∧ ROpI D n w J dv (slot tm 5) (slot tm 6) wr)) (fun a' wr => n - natI (a'.tmps.getD 6 undef)) ?wr1Start ?wr1Round
  case' wr1Start => refine LoopI.mk rfl ?_
  case' wr1Round => (rintro ⟨t, ds⟩ wr ⟨hts, hrel⟩; dsimp only at hts hrel; rw [frame189 t ds hts])
  case wr1Start => exact ⟨rfl, rfl, rfl, 0, jz0, _, _, _, Nat.zero_le _, rfl, by rw [List.drop_zero], ⟨hJle, hqJ, ⟨rfl, .inl ⟨rfl, rfl⟩⟩, ⟨rfl, .inl ⟨rfl, rfl⟩⟩, ⟨rfl, .inl ⟨rfl, rfl⟩⟩, .inl rfl, by decide⟩, ⟨rfl, .inl ⟨rfl, rfl⟩⟩, rfl, rfl, Nat.le_refl _, rfl, by decide, by decide, by decide, by decide, hbX⟩
  clear hbX hqJ
  obtain ⟨e0, e4, hds, k, j, nv, bv, tv, hkn, e6, hsc, hj, hown, hjn, hjt, hjb, hjc, hs0, hs1, hx0, hx1, hbw⟩ := hrel
  subst hds
  obtain ⟨pv, hpv⟩ : ∃ pv, pv = slot t 5 := ⟨_, rfl⟩
  rw [← hpv] at hown
  rw [e0, e4, e6, ← hpv]
  clear e0 e4 e6 hts hpv
  have HLN := hidep (HL.out wr hbw)
  by_cases hkk : k < n
  · have hkl : k < (readsZ D).length := by rw [HN.out]; exact hkk
    have hki : (k : Int) < (n : Int) := by omega
    have hk0 : (0 : Int) ≤ (k : Int) := by omega
    obtain ⟨hs64, hRD⟩ := HRD.out wr hbw k hkl
    obtain ⟨s, hs⟩ : ∃ s, s = (readsZ D)[k] := ⟨_, rfl⟩
    rw [← hs] at hs64 hRD
    have HRK := hidep hRD
    have HS := hidep hs
    have HJ := hidep (And.intro hj (And.intro hsc (And.intro hown (And.intro hbw (And.intro hjn (And.intro hjt (And.intro hjb (And.intro hjc (And.intro hs0 (And.intro hs1 (And.intro hx0 hx1)))))))))))
    clear hRD hs hj hsc hown hjn hjt hjb hjc hs0 hs1 hx0 hx1
    go_upto_region 9 with (first
      | (go_at_call 52; refine HLN.out.mono ?_; rintro e w4 ⟨rfl, hw4⟩; rw [← hw4]; clear hw4)
      | (go_at_call 53; refine HRK.out.mono ?_; rintro e w5 ⟨rfl, hw5⟩; rw [← hw5]; clear hw5)
      | fail)
    have hbw := HJ.out.2.2.2.1
    obtain ⟨p, hp⟩ : ∃ p, p = unpZ s := ⟨_, rfl⟩
    have hU := unpackR_any s wr (HK.out.below hbw)
    rw [← hp] at hU
    have HU := hidep hU
    have HP := hidep hp
    clear hU hp
    refine wp_region_lit ?_
    refine wpList_value rfl (v := .string s) (w' := wr) (by kernel_rfl) ?_
    refine wpList_enter rfl 54 #[.string s] (by kernel_rfl) HU.out ?_
    intro w6 hb6
    refine wpList_alloc_row zero_partRo _ rfl rfl ?_
    refine wpList_store_last (t := 102) (c := partC part0) (c' := partC p) w6 row_partR.2 rfl (part_one p) rfl _ _ rfl (by kernel_rfl) (by kernel_rfl) ?_
    refine wpList_nil ?_
    apply_assumption
    refine wp_abs (fun X => X.heap[w6.heap.size]? = some (.cells (partC p) 102) ∧ Below wr.heap.size wr X) ⟨heap_alloc_new _ _, hb6.alloc hb6.size _⟩ ?_
    obtain ⟨E, hE⟩ : ∃ E, E = w6.heap.size := ⟨_, rfl⟩
    rw [← hE]
    have hEge : wr.heap.size ≤ E := by have := hb6.size; omega
    have hJE : J < E := by have := lt_of_block HJ.out.1.box; omega
    rintro X9 ⟨hqE, hb9⟩
    refine wp_cutA 189 (fun tm ds => ds = [] ∧ slot tm 0 = dv ∧ slot tm 4 = .pointer (some ⟨J, 0, none⟩) ∧ slot tm 5 = pv ∧ slot tm 6 = .int .i64 (k : Int) ∧ slot tm 7 = .string s ∧ slot tm 9 = .pointer (some ⟨E, 0, none⟩)) (by kernel_rfl) (by exact ⟨by kernel_rfl, by kernel_rfl, by kernel_rfl, by kernel_rfl, by kernel_rfl, by kernel_rfl, by rw [hE]; kernel_rfl⟩) ?_
    rintro tB dB h189 ⟨rfl, e0, e4, e5, e6, e7, e9⟩
    rw [frame189 tB [] h189, e0, e4, e5, e6, e7, e9]
    clear h189 e0 e4 e5 e6 e7 e9 hE HU hb6
    have hown := own_below HJ.out.2.2.1 hb9
    refine wp_seq ?_
    refine wp_region_lit ?_
    refine wpList_value rfl (v := pv) (w' := X9) (by kernel_rfl) ?_
    refine wpList_load_mid rfl 102 _ rfl E 0 (by kernel_rfl) (partC p).toList _ (range_of_arr hqE) row_partR.1.choose_spec.1 row_partR.1.choose_spec.2 row_partR.2 ?_
    refine wpList_value rfl (v := .slice (some ⟨X9.heap.size, 0, none⟩) 1 1) (w' := X9.alloc (.cells (partC p) 102)) (by kernel_rfl) ?_
    refine wpList_append_rd _ rfl (.tmp 39) (.tmp 41) rfl slPartsR w.heap.size pv k _ (by kernel_rfl) (own_below hown ((Below.refl _ _).alloc (Nat.le_refl _) _)) _ _ _ _ (by kernel_rfl) (Rd.fresh X9 (partC p) 102 5 1 rfl (by decide)) (part_oneL p) (by unfold maxLen; omega) (by omega) (by have := hb9.size; have := hbw.size; simp; omega) ?_
    intro v10 w10 hown10 hgr10 hat10 hnl10
    clear hat10 hnl10
    refine wpList_value rfl (v := v10) (w' := w10) (by kernel_rfl) ?_
    refine wpList_nil ?_
    (try dsimp only [Exit.inBlock, Exit.then])
    refine wp_abs (fun Y => RJIn Y w.heap.size J dv nv bv tv j ∧ Y.ownsRow w.heap.size 102 5 v10 (k + 1) (partsC (((readsZ D).map unpZ).take (k + 1))) ∧ Y.heap[E]? = some (.cells (partC p) 102) ∧ Below w.heap.size w Y) ⟨RJIn.grown ((HJ.out.1.below hb9).below ((Below.refl _ _).alloc (Nat.le_refl _) _)) (own_below hown ((Below.refl _ _).alloc (Nat.le_refl _) _)) hgr10 (by decide) (by decide) (by decide),
      by rw [parts_snoc _ _ hkl, ← HS.out, ← HP.out]; exact hown10,
      (hgr10.block E (by have := lt_of_block hqE; simp; omega) (fun e => by have := HJ.out.2.2.1.lt E e.symm; omega)).trans (below_push ((Below.refl _ _).alloc (Nat.le_refl _) _) hqE),
      below_own ((hbw.trans (hb9.mono hbw.size)).alloc (Nat.le_trans hbw.size hb9.size) _) hgr10 (own_blk hown) (by have := hb9.size; have := hbw.size; simp; omega)⟩ ?_
    clear hown10 hgr10 hown hqE hb9
    rintro X2 ⟨hj2, hown2, hq2, hbw2⟩
    obtain ⟨bz, hbz⟩ : ∃ bz, bz = blankZ s := ⟨_, rfl⟩
    have HBL := hidep (blankR_any s X2 hs64)
    rw [← hbz] at HBL
    have HBZ := hidep hbz
    clear hbz
    have hw1 : IntKind.i64.wrap ((k : Int) + 1) = (k : Int) + 1 := IntWalk.i64_in _ (by omega)
    have hsx2 := hbw2.size
    refine wp_seq ?_
    refine wp_region_lit ?_
    refine wpList_value rfl (v := .string s) (w' := X2) (by kernel_rfl) ?_
    refine wpList_enter rfl 55 #[.string s] (by kernel_rfl) HBL.out ?_
    intro w7 hw7
    rw [hw7]
    clear hw7
    refine wpList_value rfl (v := .bool bz) (w' := X2) (by kernel_rfl) ?_
    refine wpList_nil ?_
    (try dsimp only [Exit.inBlock, Exit.then])
    refine wp_cutA 189 (fun tm ds => ds = [] ∧ slot tm 0 = dv ∧ slot tm 4 = .pointer (some ⟨J, 0, none⟩) ∧ slot tm 5 = v10 ∧ slot tm 6 = .int .i64 (k : Int) ∧ slot tm 9 = .pointer (some ⟨E, 0, none⟩) ∧ slot tm 10 = .bool bz) (by kernel_rfl) (by exact ⟨by kernel_rfl, by kernel_rfl, by kernel_rfl, by kernel_rfl, by kernel_rfl, by kernel_rfl, by kernel_rfl⟩) ?_
    rintro tC dC h189 ⟨rfl, e0, e4, e5, e6, e9, e10⟩
    rw [frame189 tC [] h189, e0, e4, e5, e6, e9, e10]
    clear h189 e0 e4 e5 e6 e9 e10 HBL
    refine wp_seq ?_
    refine wp_join (ROpM dv v10 J E k bz (partsC (((readsZ D).map unpZ).take (k + 1))) p w (scanA j k bz)) ?stA ?_
    case stA =>
      intro K' hMK
      cases bz with
      | true =>
        go_wp2
        exact ⟨rfl, rfl, rfl, rfl, rfl, rfl, rfl, rfl, nv, bv, tv, hj2, hown2, hq2, hbw2⟩
      | false =>
        have c5 := hj2.cells.2.2.2.2.2.1
        have f5 := box_frozen hj2.box 5
        go_wp2
        exact ⟨rfl, rfl, rfl, rfl, rfl, rfl, rfl, rfl, nv, bv, tv, hj2.stop _, own_boxt hown2 hj2.box (by decide) 5 _, (Below.heap_setCell _ _ _ E (fun e => by have : E = J := e; omega)).trans hq2, below_set hbw2 _ _ hJle⟩
    rintro ⟨tD, dD⟩ W3 ⟨h189, hds, e0, e4, e5, e6, e9, e10, nv3, bv3, tv3, hj3, hown3, hq3, hbw3⟩
    simp only at h189 hds e0 e4 e5 e6 e9 e10
    subst hds
    (try dsimp only [Exit.then])
    rw [frame189 tD [] h189, e0, e4, e5, e6, e9, e10]
    clear h189 e0 e4 e5 e6 e9 e10 hj2 hown2 hq2 hbw2
    obtain ⟨j3, hj3d⟩ : ∃ j3, j3 = scanA j k bz := ⟨_, rfl⟩
    rw [← hj3d] at hj3
    have hj3b : j3.bad.length ≤ k := by rw [hj3d]; exact HJ.out.2.2.2.2.2.2.1
    have HJ3 := hidep hj3d
    clear hj3d
    obtain ⟨pn, pp, pl, py, po⟩ := p
    obtain ⟨c0, c1, c2, c3, c4⟩ := box5p hq3
    simp only at c0 c1 c2 c3 c4
    refine wp_seq ?_
    refine wp_join (ROpM dv v10 J E k bz (partsC (((readsZ D).map unpZ).take (k + 1))) ⟨pn, pp, pl, py, po⟩ w (scanB j3 k bz po)) ?stB ?_
    case stB =>
      intro K' hMK
      cases po with
      | true =>
        have hB : scanB j3 k bz true = j3 := by simp [scanB]
        go_wp2
        exact ⟨rfl, rfl, rfl, rfl, rfl, rfl, rfl, rfl, nv3, bv3, tv3, by rw [hB]; exact hj3, hown3, hq3, hbw3⟩
      | false =>
        cases bz with
        | true =>
          have hB : scanB j3 k true false = j3 := by simp [scanB]
          go_wp2
          exact ⟨rfl, rfl, rfl, rfl, rfl, rfl, rfl, rfl, nv3, bv3, tv3, by rw [hB]; exact hj3, hown3, hq3, hbw3⟩
        | false =>
          have hB : scanB j3 k false false = { j3 with bad := j3.bad ++ [(k : Int)] } := by simp [scanB]
          have HBH := hidep hB
          clear hB
          obtain ⟨ba, bc, hbv, hbl, hbc⟩ := (Rd.of_own hj3.rb).form
          subst hbv
          have hj3A := hj3.below ((Below.refl _ _).alloc (Nat.le_refl _) (.cells #[.int .i64 (k : Int)] 3))
          have hlit := Rd.fresh W3 #[.int .i64 (k : Int)] 3 1 1 rfl (by decide)
          have cb := hj3.cells.2.2.2.1
          have hsz3 := hbw3.size
          go_wp2_with (first
            | (at_builtin; refine wpList_append_rd _ rfl (.tmp 63) (.tmp 65) rfl slInts w.heap.size _ _ _ rfl hj3A.rb _ _ _ _ rfl hlit (by intro u hu; simp at hu; subst hu; rfl) (by unfold maxLen; omega) (by omega) (by simp; omega) ?_; intro v15 w15 ho15 hg15 hd15 hnl15; clear hnl15; obtain ⟨a15, c15, rfl, _, _⟩ := (Rd.of_own ho15).form; have hx15 := grown_other hj3A.rb hg15 hj3A.box (by decide); have ho5 := own_other (own_below hown3 ((Below.refl _ _).alloc (Nat.le_refl _) (.cells #[.int .i64 (k : Int)] 3))) hj3A.rb hg15 (by decide); have hq5 := grown_other hj3A.rb hg15 (below_push ((Below.refl _ _).alloc (Nat.le_refl _) _) hq3) (by decide); have hb5 := below_own (hbw3.alloc hsz3 _) hg15 (own_blk hj3A.rb) (by simp; omega); have f15 := box_frozen hx15 3; have cl15 : w15.cell? ⟨J, 3, none⟩ = some (.slice ba j3.bad.length bc) := (by simp [World.cell?, hx15]); have hJ15 := hj3A.push_bad ho15 hg15 hd15 (by omega); clear hd15 hg15)
            | fail)
          exact ⟨rfl, rfl, rfl, rfl, rfl, rfl, rfl, rfl, nv3, _, tv3, by rw [HBH.out]; exact hJ15, own_boxt ho5 hx15 (by decide) 3 _, (Below.heap_setCell _ _ _ E (fun e => by have : E = J := e; omega)).trans hq5, below_set hb5 _ _ hJle⟩
    rintro ⟨tE, dE⟩ W4 ⟨h189, hds, e0, e4, e5, e6, e9, e10, nv4, bv4, tv4, hj4, hown4, hq4, hbw4⟩
    simp only at h189 hds e0 e4 e5 e6 e9 e10
    subst hds
    (try dsimp only [Exit.then])
    rw [frame189 tE [] h189, e0, e4, e5, e6, e9, e10]
    clear h189 e0 e4 e5 e6 e9 e10 hj3 hown3 hq3 hbw3 c0 c1 c2 c3 c4
    obtain ⟨j4, hj4d⟩ : ∃ j4, j4 = scanB j3 k bz po := ⟨_, rfl⟩
    rw [← hj4d] at hj4
    have hjz : scanC j4 pn = scanZ j k s := by
      have := scan_abc j k s
      rw [← HBZ.out, ← HP.out, ← HJ3.out, ← hj4d] at this
      exact this
    have hpr := unpZ_rng s
    rw [← HP.out] at hpr
    simp only at hpr
    have hnx : 1 ≤ j4.next ∧ j4.next ≤ 4097 := by
      rw [hj4d, HJ3.out]
      exact ⟨HJ.out.2.2.2.2.2.2.2.2.2.2.1, HJ.out.2.2.2.2.2.2.2.2.2.2.2⟩
    obtain ⟨nx, hnxd⟩ : ∃ nx, nx = j4.next := ⟨_, rfl⟩
    have d4 := hj4.cells.2.2.2.2.1
    obtain ⟨d0, _, _, _, _⟩ := box5p hq4
    simp only at d0
    rw [← hnxd] at d4 hnx
    have hw4 : IntKind.i64.wrap (pn + 1) = pn + 1 := IntWalk.i64_in _ (by omega)
    have HNX := hidep (And.intro hjz (And.intro hj4d hnxd))
    have HPR := hidep hpr
    have HST := hidep (And.intro hj4 (And.intro hown4 (And.intro hq4 (And.intro hbw4 hnx))))
    clear hpr hjz hj4d hnxd hj4 hown4 hq4 hbw4 hnx
    go_upto_region 16 with (fail)
    have hend : ∀ (W : World) (nx' : Int), RJIn W w.heap.size J dv nv4 bv4 tv4 { j4 with next := nx' } → W.ownsRow w.heap.size 102 5 v10 (k + 1) (partsC (((readsZ D).map unpZ).take (k + 1))) → Below w.heap.size w W → nx' = max nx (pn + 1) → ROpI D n w J dv v10 (.int .i64 ((k + 1 : Nat) : Int)) W := fun W nx' h1 h2 h3 h4 => by
      have hN : { j4 with next := nx' } = scanZ j k s := by
        rw [← HNX.out.1, h4, HNX.out.2.2]
        rfl
      rw [hN] at h1
      have hnx := HST.out.2.2.2.2
      have hpr := HPR.out
      refine ⟨k + 1, scanZ j k s, nv4, bv4, tv4, by omega, rfl, ?_, h1, h2, HJ.out.2.2.2.2.1, HJ.out.2.2.2.2.2.1, scan_bad j k s HJ.out.2.2.2.2.2.2.1, HJ.out.2.2.2.2.2.2.2.1, (scan_stop j k s HJ.out.2.2.2.2.2.2.2.2.1 HJ.out.2.2.2.2.2.2.2.2.2.1).1, (scan_stop j k s HJ.out.2.2.2.2.2.2.2.2.1 HJ.out.2.2.2.2.2.2.2.2.2.1).2, ?_, ?_, h3⟩
      · rw [HJ.out.2.1, drop_cons' _ _ hkl, ← HS.out]
        rfl
      · rw [← hN]
        show 1 ≤ nx'
        omega
      · rw [← hN]
        show nx' ≤ 4097
        omega
    have HEND := hidep hend
    clear hend
    by_cases hge : pn ≥ nx
    · have hmx : pn + 1 = max nx (pn + 1) := by omega
      have HMX := hidep hmx
      clear hmx
      go_quiet (fail)
      (try dsimp only [Exit.inBlock, Exit.then])
      apply_assumption
      refine wp_abs (fun Y => Below W4.heap.size W4 Y) (below_drewN (Below.refl _ _) nq) ?_
      rintro Y hbY
      have hjY := HST.out.1.below hbY
      have hoY := own_below HST.out.2.1 hbY
      have hbwY := HST.out.2.2.2.1.trans (hbY.mono HST.out.2.2.2.1.size)
      obtain ⟨d0, _, _, _, _⟩ := box5p (below_push hbY HST.out.2.2.1)
      simp only at d0
      have d4 := hjY.cells.2.2.2.2.1
      have f4 := box_frozen hjY.box 4
      have hge2 : pn ≥ nx := hge
      go_wp2
      refine ⟨LoopI.mk rfl ⟨rfl, rfl, rfl, HEND.out _ (pn + 1) (hjY.nxt (pn + 1)) (own_boxt hoY hjY.box (by decide) 4 _) (below_set hbwY _ _ hJle) HMX.out⟩, ?_⟩
      show n - _ < n - _
      simp [natI]; omega
    · have hmx : nx = max nx (pn + 1) := by omega
      have HMX := hidep hmx
      clear hmx
      go_quiet (fail)
      (try dsimp only [Exit.inBlock, Exit.then])
      apply_assumption
      refine wp_abs (fun Y => Below W4.heap.size W4 Y) (below_drewN (Below.refl _ _) nq) ?_
      rintro Y hbY
      have hjY := HST.out.1.below hbY
      have hoY := own_below HST.out.2.1 hbY
      have hbwY := HST.out.2.2.2.1.trans (hbY.mono HST.out.2.2.2.1.size)
      have hjY2 : RJIn Y w.heap.size J dv nv4 bv4 tv4 { j4 with next := nx } := by rw [HNX.out.2.2]; exact hjY
      have HJY := hidep hjY2
      clear hjY hjY2
      go_wp2
      refine ⟨LoopI.mk rfl ⟨rfl, rfl, rfl, HEND.out _ nx HJY.out hoY hbwY HMX.out⟩, ?_⟩
      show n - _ < n - _
      simp [natI]; omega
  · have hkn2 : k = n := by omega
    have hsc2 : scanAll jz0 0 (readsZ D) = j := by
      rw [hsc, hkn2, ← HN.out, List.drop_length]
      rfl
    obtain ⟨P, hP⟩ : ∃ P, P = (readsZ D).map unpZ := ⟨_, rfl⟩
    have hPl : P.length = n := by rw [hP, List.length_map, HN.out]
    have hjz : recsZ (n + 1) j P = openZ D := by
      unfold openZ journalZ
      rw [hsc2, HN.out, ← hP]
    obtain ⟨Z, hZ⟩ : ∃ Z, Z = openZ D := ⟨_, rfl⟩
    rw [← hZ] at hjz
    have HZ := hidep hZ
    have HP := hidep (show (∀ p ∈ P, 0 ≤ p.num ∧ p.num ≤ 4096 ∧ 0 ≤ p.part ∧ p.part < 65536 ∧ 0 ≤ p.left ∧ p.left < 65536 ∧ p.pay.size ≤ 48) ∧ (∀ p ∈ P, p.ok = true → p.left ≤ 8000) from by
      constructor
      · intro p hp
        rw [hP] at hp
        obtain ⟨s, _, rfl⟩ := List.mem_map.1 hp
        exact unpZ_rng s
      · intro p hp ho
        rw [hP] at hp
        obtain ⟨s, _, rfl⟩ := List.mem_map.1 hp
        exact (unp_left s ho).1)
    rw [hkn2, ← hP, List.take_of_length_le (by omega)] at hown
    have hki : ¬ (k : Int) < (n : Int) := by omega
    clear hP hZ hsc hsc2 hkn2 hkk
    have hnn : pv ≠ .slice none 0 0 := fun e => by
      have h2 := hown.1
      rw [e] at hown
      rcases hown.2 with ⟨_, h0⟩ | ⟨g, cap, cur, he, _⟩
      · omega
      · cases he
    obtain ⟨g, c, rfl, hg1, hg2⟩ := own_block hown hnn
    clear hnn
    obtain ⟨za, zc, hz, hcn, hcm⟩ := (Rd.of_own hown).form
    have hzc : zc = c := by
      injection hz with _ _ h
      exact h.symm
    rw [hzc] at hcn hcm
    unfold maxLen at hcm
    clear hz hzc
    have HPL := hidep hPl
    clear hPl
    go_upto_region 19 with (first
      | (go_at_call 52; refine HLN.out.mono ?_; rintro e w4 ⟨rfl, hw4⟩; rw [← hw4]; clear hw4)
      | fail)
    refine wp_loop (LoopI 189 (fun tm ds wr => (slot tm 4) = .pointer (some ⟨J, 0, none⟩) ∧ (slot tm 5) = .slice (some ⟨g, 0, none⟩) n c ∧ ds = [] ∧ ROpJ P n w J g c dv Z (slot tm 11) wr)) (fun a' wr => n - natI (a'.tmps.getD 11 undef)) ?wr2Start ?wr2Round
    case' wr2Start => refine LoopI.mk rfl ?_
    case' wr2Round => (rintro ⟨t, ds⟩ wr ⟨hts, hrel⟩; dsimp only at hts hrel; rw [frame189 t ds hts])
    case wr2Start => exact ⟨rfl, rfl, rfl, 0, n + 1, j, nv, bv, tv, Nat.zero_le _, rfl, by omega, by rw [List.drop_zero]; exact hjz, hj, hown, by rw [hjn]; exact Nat.zero_le _, by rw [hjt]; exact Nat.zero_le _, by omega, hbw⟩
    clear hj hown hjn hjt hjb hjc hs0 hs1 hx0 hx1 hbw hjz hg1 hg2 hkn hki HLN
    obtain ⟨e4, e5, hds, i, f, j, nv, bv, tv, hin, e11, hf, hjz, hj, hown, hjn, hjt, hjb, hbw⟩ := hrel
    subst hds
    rw [e4, e5, e11]
    clear e4 e5 e11 hts
    have hbs := hbw.size
    by_cases hii : i < n
    · have hii2 : (i : Int) < (n : Int) := by omega
      have hi0 : (0 : Int) ≤ (i : Int) := by omega
      have hiP : i < P.length := by rw [HPL.out]; exact hii
      obtain ⟨f1, rfl⟩ : ∃ f1, f = f1 + 1 := ⟨f - 1, by omega⟩
      have hcons := List.drop_eq_getElem_cons hiP
      obtain ⟨p, hp⟩ : ∃ p, p = P[i] := ⟨_, rfl⟩
      have hprd : PartsR wr (.slice (some ⟨g, 0, none⟩) n c) P := by unfold PartsR; rw [HPL.out]; exact (Rd.of_own hown).mono (fun _ _ => trivial)
      have hrg : wr.rangeAt g (i * 5) (partC p).toList := by
        have h := (PartsR.range (w := wr) (b := g) (o := 0) (c := c) (l := P) (by rw [HPL.out]; exact hprd) i hiP)
        rw [Nat.zero_add, ← hp] at h
        exact h
      have hpr := HP.out.1 p (by rw [hp]; exact List.getElem_mem hiP)
      have hp8 := HP.out.2 p (by rw [hp]; exact List.getElem_mem hiP)
      rw [← hp] at hcons
      obtain ⟨m, hm⟩ : ∃ m : Nat, cntZ p.left = (m : Int) := ⟨(cntZ p.left).toNat, by have := cntZ_rng p.left; omega⟩
      have hm167 : m ≤ 167 := by have := cntZ_rng p.left; omega
      obtain ⟨L, hLd⟩ : ∃ L, L = P.drop i := ⟨_, rfl⟩
      have hLl : L.length = n - i := by rw [hLd, List.length_drop, HPL.out]
      obtain ⟨wh, hwh⟩ : ∃ wh, wh = (p.ok && (decide (p.part = 0) && decide ((m : Int) ≤ ((n - i : Nat) : Int)))) := ⟨_, rfl⟩
      have hrec : recordZ L = if wh = true ∧ recAll p 0 (L.take m) = true then (payAll (L.take m), (m : Int), true) else (ByteArray.empty, 0, false) := by
        have h := rec_of p (P.drop (i + 1))
        rw [← hcons, hm, Int.toNat_natCast, ← hLd, hLl, ← hwh] at h
        exact h
      have hstep : Z = if (recordZ L).2.2 = true then recsZ f1 (foundZ j p.num (recordZ L).1) (P.drop (i + (recordZ L).2.1.toNat)) else recsZ f1 j (P.drop (i + 1)) := by
        rw [← hjz, ← List.drop_drop, hLd, hcons]
        rfl
      have hm1 : wh = true → 1 ≤ m ∧ i + m ≤ n := fun h => by
        rw [hwh] at h
        simp only [Bool.and_eq_true, decide_eq_true_eq] at h
        have h8 := hp8 h.1
        have : 1 ≤ cntZ p.left := by unfold cntZ; rw [if_neg (by omega)]; omega
        omega
      have HR := hidep (And.intro hrec (And.intro hstep (And.intro hm1 hLd)))
      have HM := hidep hm
      have HST := hidep (And.intro hj (And.intro hown (And.intro hjn (And.intro hjt (And.intro hjb (And.intro hbw (And.intro hprd hf)))))))
      have HWH := hidep hwh
      have HPI := hidep (And.intro hp hcons)
      clear hrec hstep hm1 hLd hm hj hown hjn hjt hjb hbw hprd hf hjz hwh hp hcons
      go_upto_region 20 with (fail)
      refine wp_region_lit ?_
      refine wpList_value rfl (v := .slice (some ⟨g, 0, none⟩) n c) (w' := wr) (by kernel_rfl) ?_
      refine wpList_value rfl (v := .int .i64 (i : Int)) (w' := wr) (by kernel_rfl) ?_
      refine wpList_value rfl (v := .pointer (some ⟨g, i * 5, none⟩)) (w' := wr) (by
        have e : ∀ ev : Operand → Value, ev (.tmp 86) = .slice (some ⟨g, 0, none⟩) n c → ev (.tmp 87) = .int .i64 (i : Int) → (execOp ev ⟨some 88, .indexAddr 100 (.tmp 86) (.tmp 87), 0, "", #[], none⟩).run Tryz.prog wr = .ok (.value (.pointer (some ⟨g, i * 5, none⟩))) wr := fun ev ha hc => by
          go_simp
        exact e _ (by kernel_rfl) (by kernel_rfl)) ?_
      refine wpList_load_mid rfl 102 _ rfl g (i * 5) (by kernel_rfl) (partC p).toList _ hrg row_partR.1.choose_spec.1 row_partR.1.choose_spec.2 row_partR.2 ?_
      refine wpList_alloc_row zero_partRo _ rfl rfl ?_
      refine wpList_store_last (t := 102) (c := partC part0) (c' := partC p) wr row_partR.2 rfl (part_one p) rfl _ _ rfl (by kernel_rfl) (by kernel_rfl) ?_
      refine wpList_nil ?_
      apply_assumption
      refine wp_abs (fun X => X.heap[wr.heap.size]? = some (.cells (partC p) 102) ∧ Below wr.heap.size wr X) ⟨heap_alloc_new _ _, (Below.refl _ _).alloc (Nat.le_refl _) _⟩ ?_
      obtain ⟨F, hF⟩ : ∃ F, F = wr.heap.size := ⟨_, rfl⟩
      rw [← hF]
      rintro X ⟨hqF, hbX⟩
      refine wp_cutA 189 (fun tm ds => ds = [] ∧ slot tm 4 = .pointer (some ⟨J, 0, none⟩) ∧ slot tm 5 = .slice (some ⟨g, 0, none⟩) n c ∧ slot tm 11 = .int .i64 (i : Int) ∧ slot tm 12 = .pointer (some ⟨F, 0, none⟩)) (by kernel_rfl) (by exact ⟨by kernel_rfl, by kernel_rfl, by kernel_rfl, by kernel_rfl, by rw [hF]; kernel_rfl⟩) ?_
      rintro tA dA h189 ⟨rfl, e4, e5, e11, e12⟩
      rw [frame189 tA [] h189, e4, e5, e11, e12]
      rw [hF] at hbX
      have HF := hidep hF
      clear h189 e4 e5 e11 e12 hrg hF
      have HCN := hidep (show ∀ W, Calls Tryz.prog 56 #[.int .i64 p.left] W fun e w' => e = .returned (.int .i64 (m : Nat)) ∧ w' = W from fun W => by
        have := countR_any p.left W (by omega) (by omega)
        rw [HM.out] at this
        exact this)
      obtain ⟨fn, fp, fl, fy, fo⟩ := p
      obtain ⟨c0, c1, c2, c3, c4⟩ := box5p hqF
      simp only at c0 c1 c2 c3 c4 HCN hpr hp8
      refine wp_seq ?_
      refine wp_region_lit ?_
      refine wpList_value rfl (v := .pointer (some ⟨F, 2, none⟩)) (w' := X) (by kernel_rfl) ?_
      refine wpList_value rfl (v := .int .i64 fl) (w' := X) (by
        have e : ∀ ev : Operand → Value, ev (.tmp 90) = .pointer (some ⟨F, 2, none⟩) → (execOp ev ⟨some 91, .load 3 (.tmp 90), 3, "", #[], none⟩).run Tryz.prog X = .ok (.value (.int .i64 fl)) X := fun ev ha => by
          go_simp
        exact e _ (by kernel_rfl)) ?_
      refine wpList_enter rfl 56 #[.int .i64 fl] (by kernel_rfl) (HCN.out X) ?_
      intro w7 hw7
      rw [hw7]
      clear hw7
      refine wpList_value rfl (v := .int .i64 (m : Nat)) (w' := X) (by kernel_rfl) ?_
      refine wpList_nil ?_
      (try dsimp only [Exit.inBlock, Exit.then])
      refine wp_seq ?_
      refine wp_region_lit ?_
      refine wpList_value rfl (v := .string ByteArray.empty) (w' := X) (by kernel_rfl) ?_
      refine wpList_nil ?_
      (try dsimp only [Exit.inBlock, Exit.then])
      refine wp_cutA 189 (fun tm ds => ds = [] ∧ slot tm 4 = .pointer (some ⟨J, 0, none⟩) ∧ slot tm 5 = .slice (some ⟨g, 0, none⟩) n c ∧ slot tm 11 = .int .i64 (i : Int) ∧ slot tm 12 = .pointer (some ⟨F, 0, none⟩) ∧ slot tm 13 = .int .i64 (m : Nat) ∧ slot tm 14 = .string ByteArray.empty) (by kernel_rfl) (by exact ⟨by kernel_rfl, by kernel_rfl, by kernel_rfl, by kernel_rfl, by kernel_rfl, by kernel_rfl, by kernel_rfl⟩) ?_
      rintro tB dB h189 ⟨rfl, e4, e5, e11, e12, e13, e14⟩
      rw [frame189 tB [] h189, e4, e5, e11, e12, e13, e14]
      clear h189 e4 e5 e11 e12 e13 e14 HCN
      have hwm : IntKind.i64.wrap ((i : Int) + (m : Int)) = (i : Int) + (m : Int) := IntWalk.i64_in _ (by omega)
      refine wp_seq ?_
      refine wp_join (ROpW J g c F n i m wh X) ?wh ?_
      case wh =>
        intro K' hMK
        cases fo with
        | false =>
          have hw : wh = false := by rw [HWH.out]; rfl
          have HW := hidep hw
          clear hw
          go_wp2
          exact ⟨rfl, rfl, rfl, rfl, rfl, rfl, rfl, rfl, Eq.trans (by kernel_rfl) (congrArg Value.bool HW.out.symm), rfl⟩
        | true =>
          by_cases hfp : fp = 0
          · by_cases him : i + m ≤ n
            · have hw : wh = true := by rw [HWH.out, hfp]; simp; omega
              have g1 : (fp == 0) = true := by simp [hfp]
              have g2 : (i : Int) + (m : Int) ≤ (n : Int) := by omega
              have HW := hidep hw
              clear hw hfp him
              go_wp2
              exact ⟨rfl, rfl, rfl, rfl, rfl, rfl, rfl, rfl, Eq.trans (by kernel_rfl) (congrArg Value.bool HW.out.symm), rfl⟩
            · have hw : wh = false := by rw [HWH.out, hfp]; simp; omega
              have g1 : (fp == 0) = true := by simp [hfp]
              have g2 : ¬ (i : Int) + (m : Int) ≤ (n : Int) := by omega
              have HW := hidep hw
              clear hw hfp him
              go_wp2
              exact ⟨rfl, rfl, rfl, rfl, rfl, rfl, rfl, rfl, Eq.trans (by kernel_rfl) (congrArg Value.bool HW.out.symm), rfl⟩
          · have hw : wh = false := by rw [HWH.out]; simp [hfp]
            have g1 : (fp == 0) = false := by simp [hfp]
            have HW := hidep hw
            clear hw hfp
            go_wp2
            exact ⟨rfl, rfl, rfl, rfl, rfl, rfl, rfl, rfl, Eq.trans (by kernel_rfl) (congrArg Value.bool HW.out.symm), rfl⟩
      rintro ⟨tC, dC⟩ W3 ⟨h189, hds, e4, e5, e11, e12, e13, e14, e15, hW3⟩
      simp only at h189 hds e4 e5 e11 e12 e13 e14 e15 hW3
      subst hds
      (try dsimp only [Exit.then])
      rw [frame189 tC [] h189, e4, e5, e11, e12, e13, e14, e15, hW3]
      clear h189 e4 e5 e11 e12 e13 e14 e15 hW3 c0 c1 c2 c3 c4
      go_upto_region 25 with (fail)
      have hbX0 := Below.refl X.heap.size X
      refine wp_loop (LoopI 189 (fun tm ds wr => (slot tm 4) = .pointer (some ⟨J, 0, none⟩) ∧ (slot tm 5) = .slice (some ⟨g, 0, none⟩) n c ∧ (slot tm 11) = .int .i64 (i : Int) ∧ (slot tm 12) = .pointer (some ⟨F, 0, none⟩) ∧ (slot tm 13) = .int .i64 (m : Nat) ∧ ds = [] ∧ ROpK L ⟨fn, fp, fl, fy, fo⟩ wh m X (slot tm 14) (slot tm 15) (slot tm 16) wr)) (fun a' wr => m - natI (a'.tmps.getD 16 undef)) ?wr3Start ?wr3Round
      case' wr3Start => refine LoopI.mk rfl ?_
      case' wr3Round => (rintro ⟨t, ds⟩ wr ⟨hts, hrel⟩; dsimp only at hts hrel; rw [frame189 t ds hts])
      case wr3Start => exact ⟨rfl, rfl, rfl, rfl, rfl, rfl, 0, Nat.zero_le _, fun _ => rfl, rfl, rfl, by show Value.bool wh = _; simp [recAll], hbX0⟩
      clear hbX0
      obtain ⟨e4, e5, e11, e12, e13, hds, l, hlm, hl0, e16, e14, e15, hbl⟩ := hrel
      subst hds
      obtain ⟨tx, htx⟩ : ∃ tx, tx = payAll (L.take l) := ⟨_, rfl⟩
      obtain ⟨bl, hbld⟩ : ∃ bl, bl = (wh && recAll ⟨fn, fp, fl, fy, fo⟩ 0 (L.take l)) := ⟨_, rfl⟩
      rw [← htx] at e14
      rw [← hbld] at e15
      rw [e4, e5, e11, e12, e13, e14, e15, e16]
      clear e4 e5 e11 e12 e13 e14 e15 e16 hts
      by_cases hgo : bl = true ∧ l < m
      · obtain ⟨hb1, hlm2⟩ := hgo
        have hboth := hbld
        rw [hb1] at hboth
        have hb2 := hboth.symm
        rw [Bool.and_eq_true] at hb2
        have him := (HR.out.2.2.1 hb2.1).2
        have hlL : l < L.length := by omega
        have hlmi : (l : Int) < (m : Int) := by omega
        have hl00 : (0 : Int) ≤ (l : Int) := by omega
        have hilP : i + l < P.length := by rw [HPL.out]; omega
        obtain ⟨qq, hqq⟩ : ∃ qq, qq = L[l] := ⟨_, rfl⟩
        have hqP : qq = P[i + l] := by
          rw [hqq]
          have : L[l]? = P[i + l]? := by rw [HR.out.2.2.2, List.getElem?_drop]
          rw [List.getElem?_eq_getElem hlL, List.getElem?_eq_getElem hilP] at this
          exact Option.some.inj this
        have hwl := hbX.trans (hbl.mono hbX.size)
        have hrg : wr.rangeAt g ((i + l) * 5) (partC qq).toList := by
          have h := (PartsR.range (w := wr) (b := g) (o := 0) (c := c) (l := P) (by rw [HPL.out]; exact PartsR.below HST.out.2.2.2.2.2.2.1 hwl) (i + l) hilP)
          rw [Nat.zero_add, ← hqP] at h
          exact h
        have hqr := HP.out.1 qq (by rw [hqP]; exact List.getElem_mem hilP)
        have htxs := pay_size L (fun x hx => (HP.out.1 x (by rw [HR.out.2.2.2] at hx; exact List.mem_of_mem_drop hx)).2.2.2.2.2.2) l (by omega)
        rw [← htx] at htxs
        have hwil : IntKind.i64.wrap ((i : Int) + (l : Int)) = (i : Int) + (l : Int) := IntWalk.i64_in _ (by omega)
        have HQ := hidep (show recAll ⟨fn, fp, fl, fy, fo⟩ 0 (L.take (l + 1)) = recOk ⟨fn, fp, fl, fy, fo⟩ l qq ∧ payAll (L.take (l + 1)) = tx ++ qq.pay from by
          rw [rec_snoc _ L l hlL, hb2.2, Bool.true_and, ← hqq, pay_snoc L l hlL, ← hqq, ← htx]
          exact ⟨rfl, rfl⟩)
        have HWT := hidep hb2.1
        have hsl := hwl.size
        have hqF2 := below_push hbl hqF
        have HBL := hidep hbl
        clear hboth hbld htx hb2 hqq hqP hbl hwl
        subst hb1
        go_upto_region 27 with (fail)
        refine wp_region_lit ?_
        refine wpList_value rfl (v := .slice (some ⟨g, 0, none⟩) n c) (w' := wr) (by kernel_rfl) ?_
        refine wpList_value rfl (v := .int .i64 (i : Int)) (w' := wr) (by kernel_rfl) ?_
        refine wpList_value rfl (v := .int .i64 (l : Int)) (w' := wr) (by kernel_rfl) ?_
        refine wpList_value rfl (v := .int .i64 (((i + l : Nat) : Nat) : Int)) (w' := wr) (by
          have e : ∀ ev : Operand → Value, ev (.tmp 117) = .int .i64 (i : Int) → ev (.tmp 118) = .int .i64 (l : Int) → (execOp ev ⟨some 119, .binOp .add 3 (.tmp 117) (.tmp 118) 3, 3, "", #[], none⟩).run Tryz.prog wr = .ok (.value (.int .i64 (((i + l : Nat) : Nat) : Int))) wr := fun ev ha hc => by
            rw [show (((i + l : Nat) : Nat) : Int) = (i : Int) + (l : Int) from by omega]
            go_simp
          exact e _ (by kernel_rfl) (by kernel_rfl)) ?_
        refine wpList_value rfl (v := .pointer (some ⟨g, (i + l) * 5, none⟩)) (w' := wr) (by
          have e : ∀ ev : Operand → Value, ev (.tmp 116) = .slice (some ⟨g, 0, none⟩) n c → ev (.tmp 119) = .int .i64 (((i + l : Nat) : Nat) : Int) → (execOp ev ⟨some 120, .indexAddr 100 (.tmp 116) (.tmp 119), 0, "", #[], none⟩).run Tryz.prog wr = .ok (.value (.pointer (some ⟨g, (i + l) * 5, none⟩))) wr := fun ev ha hc => by
            obtain ⟨il, hil⟩ : ∃ il, il = i + l := ⟨_, rfl⟩
            rw [← hil] at hc ⊢
            have h1 : (0 : Int) ≤ (il : Int) := by omega
            have h2 : (il : Int) < (n : Int) := by omega
            clear hwil hil
            go_simp
          exact e _ (by kernel_rfl) (by kernel_rfl)) ?_
        refine wpList_load_mid rfl 102 _ rfl g ((i + l) * 5) (by kernel_rfl) (partC qq).toList _ hrg row_partR.1.choose_spec.1 row_partR.1.choose_spec.2 row_partR.2 ?_
        refine wpList_alloc_row zero_partRo _ rfl rfl ?_
        refine wpList_store_last (t := 102) (c := partC part0) (c' := partC qq) wr row_partR.2 rfl (part_one qq) rfl _ _ rfl (by kernel_rfl) (by kernel_rfl) ?_
        refine wpList_nil ?_
        apply_assumption
        refine wp_abs (fun Y => Y.heap[wr.heap.size]? = some (.cells (partC qq) 102) ∧ Y.heap[F]? = some (.cells (partC ⟨fn, fp, fl, fy, fo⟩) 102) ∧ Below wr.heap.size wr Y) ⟨heap_alloc_new _ _, below_push ((Below.refl _ _).alloc (Nat.le_refl _) _) hqF2, (Below.refl _ _).alloc (Nat.le_refl _) _⟩ ?_
        obtain ⟨G, hG⟩ : ∃ G, G = wr.heap.size := ⟨_, rfl⟩
        rw [← hG]
        rintro Y ⟨hqG, hqFY, hbY⟩
        rw [hG] at hbY
        refine wp_cutA 189 (fun tm ds => ds = [] ∧ slot tm 4 = .pointer (some ⟨J, 0, none⟩) ∧ slot tm 5 = .slice (some ⟨g, 0, none⟩) n c ∧ slot tm 11 = .int .i64 (i : Int) ∧ slot tm 12 = .pointer (some ⟨F, 0, none⟩) ∧ slot tm 13 = .int .i64 (m : Nat) ∧ slot tm 14 = .string tx ∧ slot tm 16 = .int .i64 (l : Int) ∧ slot tm 17 = .pointer (some ⟨G, 0, none⟩)) (by kernel_rfl) (by exact ⟨by kernel_rfl, by kernel_rfl, by kernel_rfl, by kernel_rfl, by kernel_rfl, by kernel_rfl, by kernel_rfl, by kernel_rfl, by rw [hG]; kernel_rfl⟩) ?_
        rintro tB dB h189 ⟨rfl, e4, e5, e11, e12, e13, e14, e16, e17⟩
        rw [frame189 tB [] h189, e4, e5, e11, e12, e13, e14, e16, e17]
        clear h189 e4 e5 e11 e12 e13 e14 e16 e17 hG hrg hqF2
        obtain ⟨qn, qp, ql, qy, qo⟩ := qq
        obtain ⟨c0, c1, c2, c3, c4⟩ := box5p hqG
        obtain ⟨b0, b1, b2, b3, b4⟩ := box5p hqFY
        simp only at c0 c1 c2 c3 c4 b0 b1 b2 b3 b4 hqr
        have hw48 : IntKind.i64.wrap (48 * (l : Int)) = 48 * (l : Int) := IntWalk.i64_in _ (by omega)
        have hwfl : IntKind.i64.wrap (fl - 48 * (l : Int)) = fl - 48 * (l : Int) := IntWalk.i64_in _ (by omega)
        obtain ⟨x, hx⟩ : ∃ x, x = recOk ⟨fn, fp, fl, fy, fo⟩ l ⟨qn, qp, ql, qy, qo⟩ := ⟨_, rfl⟩
        have hx2 : x = (qo && (decide (qn = fn) && (decide (qp = (l : Int)) && decide (ql = fl - 48 * (l : Int))))) := hx
        have HX := hidep hx
        have HX2 := hidep hx2
        clear hx hx2
        refine wp_seq ?_
        refine wp_join (ROpX J g c F G n i m l tx x Y) ?qk ?_
        case qk =>
          intro K' hMK
          cases qo with
          | false =>
            have HW := hidep (show x = false from by rw [HX2.out]; rfl)
            go_wp2
            exact ⟨rfl, rfl, rfl, rfl, rfl, rfl, rfl, rfl, Eq.trans (by kernel_rfl) (congrArg Value.bool HW.out.symm), rfl, rfl, rfl⟩
          | true =>
            by_cases h1 : qn = fn
            · have g1 : (qn == fn) = true := by simp [h1]
              by_cases h2 : qp = (l : Int)
              · have g2 : (qp == (l : Int)) = true := by simp [h2]
                by_cases h3 : ql = fl - 48 * (l : Int)
                · have g3 : (ql == fl - 48 * (l : Int)) = true := by simp [h3]
                  have HW := hidep (show x = true from by rw [HX2.out]; simp [h1, h2, h3])
                  clear h1 h2 h3
                  go_wp2
                  exact ⟨rfl, rfl, rfl, rfl, rfl, rfl, rfl, rfl, Eq.trans (by kernel_rfl) (congrArg Value.bool HW.out.symm), rfl, rfl, rfl⟩
                · have g3 : (ql == fl - 48 * (l : Int)) = false := by simp [h3]
                  have HW := hidep (show x = false from by rw [HX2.out]; simp [h1, h2, h3])
                  clear h1 h2 h3
                  go_wp2
                  exact ⟨rfl, rfl, rfl, rfl, rfl, rfl, rfl, rfl, Eq.trans (by kernel_rfl) (congrArg Value.bool HW.out.symm), rfl, rfl, rfl⟩
              · have g2 : (qp == (l : Int)) = false := by simp [h2]
                have HW := hidep (show x = false from by rw [HX2.out]; simp [h1, h2])
                clear h1 h2
                go_wp2
                exact ⟨rfl, rfl, rfl, rfl, rfl, rfl, rfl, rfl, Eq.trans (by kernel_rfl) (congrArg Value.bool HW.out.symm), rfl, rfl, rfl⟩
            · have g1 : (qn == fn) = false := by simp [h1]
              have HW := hidep (show x = false from by rw [HX2.out]; simp [h1])
              clear h1
              go_wp2
              exact ⟨rfl, rfl, rfl, rfl, rfl, rfl, rfl, rfl, Eq.trans (by kernel_rfl) (congrArg Value.bool HW.out.symm), rfl, rfl, rfl⟩
        rintro ⟨tE, dE⟩ W4 ⟨h189, hds, e4, e5, e11, e12, e13, e14, e15, e16, e17, hW4⟩
        simp only at h189 hds e4 e5 e11 e12 e13 e14 e15 e16 e17 hW4
        subst hds
        (try dsimp only [Exit.then])
        rw [frame189 tE [] h189, e4, e5, e11, e12, e13, e14, e15, e16, e17, hW4]
        clear h189 e4 e5 e11 e12 e13 e14 e15 e16 e17 hW4
        go_wp2
        refine ⟨LoopI.mk rfl ⟨rfl, rfl, rfl, rfl, rfl, rfl, l + 1, by omega, fun h => (by rw [HWT.out] at h; cases h), by show Value.int _ _ = _; go_num, ?_, ?_, HBL.out.trans (hbY.mono HBL.out.size)⟩, ?_⟩
        · rw [HQ.out.2]
          rfl
        · rw [HQ.out.1, HWT.out, Bool.true_and, ← HX.out]
          rfl
        · show m - _ < m - _
          simp [natI]; omega
      · have hwl := hbX.trans (hbl.mono hbX.size)
        have hj2 := HST.out.1.below hwl
        have hown2 := own_below HST.out.2.1 hwl
        have hjn := HST.out.2.2.1
        have hjt := HST.out.2.2.2.1
        have hjb := HST.out.2.2.2.2.1
        have hbw2 := HST.out.2.2.2.2.2.1.trans (hwl.mono hbs)
        have hff := HST.out.2.2.2.2.2.2.2
        have hqF2 := below_push hbl hqF
        cases bl with
        | false =>
          have hno : ¬ (wh = true ∧ recAll ⟨fn, fp, fl, fy, fo⟩ 0 (L.take m) = true) := by
            rintro ⟨h1, h2⟩
            rw [h1, Bool.true_and] at hbld
            rw [recAll_split _ (L.take m) 0 l, List.take_take, Nat.min_eq_left hlm, ← hbld] at h2
            simp at h2
          have hst := HR.out.2.1
          rw [HR.out.1, if_neg hno, if_neg (by decide)] at hst
          have HT := hidep hst
          have hwi : IntKind.i64.wrap ((i : Int) + 1) = (i : Int) + 1 := IntWalk.i64_in _ (by omega)
          clear hst hno hbld htx hgo hl0 hlm
          go_wp2
          refine ⟨LoopI.mk rfl ⟨rfl, rfl, rfl, i + 1, f1, j, nv, bv, tv, by omega, by show Value.int _ _ = _; go_num, by omega, HT.out.symm, hj2, hown2, by omega, by omega, hjb, hbw2⟩, ?_⟩
          show n - _ < n - _
          simp [natI]; omega
        | true =>
          have hlm3 : l = m := by
            rcases Nat.lt_or_ge l m with h | h
            · exact absurd ⟨rfl, h⟩ hgo
            · omega
          subst hlm3
          have hyes : wh = true ∧ recAll ⟨fn, fp, fl, fy, fo⟩ 0 (L.take l) = true := by
            have := hbld.symm
            rw [Bool.and_eq_true] at this
            exact this
          have hst := HR.out.2.1
          rw [HR.out.1, if_pos hyes, if_pos rfl] at hst
          simp only [Int.toNat_natCast] at hst
          rw [← htx] at hst
          have hmm := HR.out.2.2.1 hyes.1
          have HT := hidep hst
          have hwi : IntKind.i64.wrap ((i : Int) + (l : Int)) = (i : Int) + (l : Int) := IntWalk.i64_in _ (by omega)
          have hlli : ¬ (l : Int) < (l : Int) := by omega
          obtain ⟨na, nc, rfl, hnl, hnc⟩ := (Rd.of_own hj2.rn).form
          obtain ⟨ta, tc, rfl, htl, htc⟩ := (Rd.of_own hj2.rt).form
          have hrn := (Rd.of_own hj2.rn).mono (T' := fun _ => True) (fun _ _ => trivial)
          obtain ⟨bm, hbm⟩ : ∃ bm, bm = decide (fn ∈ j.nums) := ⟨_, rfl⟩
          have HCT := hidep (fun Y (hY : Below wr.heap.size wr Y) => has_any _ j.nums fn Y (hrn.below hY) (by omega))
          rw [← hbm] at HCT
          have hO : ROpS w.heap.size J g c F n ⟨fn, fp, fl, fy, fo⟩ dv _ bv _ _ _ P j j.nums j.texts w wr := ⟨hj2.mid, hown2, hbw2, hqF2⟩
          have HO := hidep hO
          have HC := hidep (fun Y (hY : Below wr.heap.size wr Y) => And.intro (show Y.cell? ⟨J, 1, none⟩ = some (.slice na j.nums.length nc) from by simp [World.cell?, (hO.below hY).mid.box]) (show Y.cell? ⟨F, 0, none⟩ = some (.int .i64 fn) from (box5p (hO.below hY).box).1))
          have HBM := hidep hbm
          clear hst hbld htx hgo hl0 hlm hyes hbm hrn hO hj2 hown2 hbw2 hqF2
          go_upto_region 32 with (fail)
          refine wp_region_noPanic (wp_region_held_drew (S := (fun Y => Below wr.heap.size wr Y)) (by kernel_rfl) ?hS13r32n0 (fun hHeld => ?hR13r32n0))
          case hS13r32n0 => ((try dsimp only); (exact (Below.refl _ _).drew))
          refine wpAnyH_take (i := 0) (v := ?v13r32n0q1) rfl (by kernel_rfl) (by kernel_rfl) (by kernel_rfl) (fun _ _ _ h => h) (Or.inl ⟨by kernel_rfl, ?hy13r32n0q1⟩) (by assumption) ?hr13r32n0q1
          case hy13r32n0q1 => (intro w hSw; (try dsimp only at hSw); (obtain ⟨d1, dp⟩ := HC.out w hSw); first | (go_simp; done) | (go_simp; with_reducible rfl))
          refine wpAnyH_take (i := 1) (v := ?v13r32n0q2) rfl (by kernel_rfl) (by kernel_rfl) (by kernel_rfl) (fun _ _ _ h => h) (Or.inl ⟨by kernel_rfl, ?hy13r32n0q2⟩) (by assumption) ?hr13r32n0q2
          case hy13r32n0q2 => (intro w hSw; (try dsimp only at hSw); (obtain ⟨d1, dp⟩ := HC.out w hSw); first | (go_simp; done) | (go_simp; with_reducible rfl))
          refine wpAnyH_take (i := 2) (v := ?v13r32n0q3) rfl (by kernel_rfl) (by kernel_rfl) (by kernel_rfl) (fun _ _ _ h => h) (Or.inl ⟨by kernel_rfl, ?hy13r32n0q3⟩) (by assumption) ?hr13r32n0q3
          case hy13r32n0q3 => (intro w hSw; (try dsimp only at hSw); (obtain ⟨d1, dp⟩ := HC.out w hSw); first | (go_simp; done) | (go_simp; with_reducible rfl))
          refine wpAnyH_take (i := 3) (v := ?v13r32n0q4) rfl (by kernel_rfl) (by kernel_rfl) (by kernel_rfl) (fun _ _ _ h => h) (Or.inl ⟨by kernel_rfl, ?hy13r32n0q4⟩) (by assumption) ?hr13r32n0q4
          case hy13r32n0q4 => (intro w hSw; (try dsimp only at hSw); (obtain ⟨d1, dp⟩ := HC.out w hSw); first | (go_simp; done) | (go_simp; with_reducible rfl))
          refine wpAnyH_take (i := 4) (v := ?v13r32n0q5) rfl (by kernel_rfl) (by kernel_rfl) (by kernel_rfl) (fun _ _ _ h => h) (Or.inl ⟨by kernel_rfl, ?hy13r32n0q5⟩) (by assumption) ?hr13r32n0q5
          case hy13r32n0q5 => (intro w hSw; (try dsimp only at hSw); (obtain ⟨d1, dp⟩ := HC.out w hSw); first | (go_simp; done) | (go_simp; with_reducible rfl))
          refine wpAnyH_take (i := 5) (v := ?v13r32n0q6) rfl (by kernel_rfl) (by kernel_rfl) (by kernel_rfl) (fun _ _ _ h => h) (Or.inl ⟨by kernel_rfl, ?hy13r32n0q6⟩) (by assumption) ?hr13r32n0q6
          case hy13r32n0q6 => (intro w hSw; (try dsimp only at hSw); (obtain ⟨d1, dp⟩ := HC.out w hSw); first | (go_simp; done) | (go_simp; with_reducible rfl))
          refine wpAnyH_ready (rs := [6]) (by kernel_rfl) (by simp) (AllReadyH.cons rfl (fun K hK => ?hc13r32n0q7) AllReadyH.nil)
          go_simp
          (go_at_call 57; refine (HCT.out _ hHeld).mono ?_; rintro e w161 ⟨rfl, hw161⟩; rw [hw161]; clear hw161; have hk := hHeld; (try dsimp only))
          refine hK.out _ _ ?hs13r32n0q7 (fun hHeld13r32n0q7 => ?ht13r32n0q7)
          case hs13r32n0q7 => ((try dsimp only); (exact hHeld))
          clear hHeld hK
          have hHeld := hHeld13r32n0q7
          clear hHeld13r32n0q7
          refine wpAnyH_take (i := 7) (v := ?v13r32n0q8) rfl (by kernel_rfl) (by kernel_rfl) (by kernel_rfl) (fun _ _ _ h => h) (Or.inl ⟨by kernel_rfl, ?hy13r32n0q8⟩) (by assumption) ?hr13r32n0q8
          case hy13r32n0q8 => (intro w hSw; (try dsimp only at hSw); (obtain ⟨d1, dp⟩ := HC.out w hSw); first | (go_simp; done) | (go_simp; with_reducible rfl))
          refine wpAnyH_done (by kernel_rfl) ?_ _
          clear hHeld
          refine NoPanic.normal ?_
          apply_assumption
          refine wp_abs (fun X => ROpS w.heap.size J g c F n ⟨fn, fp, fl, fy, fo⟩ dv _ bv _ _ _ P j j.nums j.texts w X) (HO.out.below hk) ?_
          rintro X2 hO
          clear HC HCT HO hk
          cases bm with
          | true =>
            have hfd : foundZ j fn tx = j := by
              unfold foundZ
              rw [if_pos (of_decide_eq_true HBM.out.symm)]
            have hT := HT.out
            rw [hfd] at hT
            have HT2 := hidep hT
            clear hfd hT HT
            go_wp2
            refine ⟨LoopI.mk rfl ⟨rfl, rfl, rfl, i + l, f1, j, _, bv, _, by omega, by show Value.int _ _ = _; go_num, by omega, HT2.out.symm, ⟨hO.mid.hb, hO.mid.box, hO.mid.rn, hO.mid.rb, hO.mid.rt, hO.mid.ne, hO.mid.len⟩, hO.row, by omega, by omega, hjb, hO.bel⟩, ?_⟩
            show n - _ < n - _
            simp [natI]; omega
          | false =>
            have hfd : foundZ j fn tx = { j with nums := j.nums ++ [fn], texts := j.texts ++ [tx] } := by
              unfold foundZ
              rw [if_neg (of_decide_eq_false HBM.out.symm)]
            have hT := HT.out
            rw [hfd] at hT
            have HT2 := hidep hT
            clear hfd hT HT
            have d1 : X2.cell? ⟨J, 1, none⟩ = some (.slice na j.nums.length nc) := by simp [World.cell?, hO.mid.box]
            have dp : X2.cell? ⟨F, 0, none⟩ = some (.int .i64 fn) := (box5p hO.box).1
            have f1' := box_frozen hO.mid.box 1
            go_upto_region 34 with (fail)
            refine wp_region_noPanic (wp_region_heldD (S := (fun Y => Y.cell? ⟨J, 1, none⟩ = some (.slice na j.nums.length nc) ∧ Y.cell? ⟨F, 0, none⟩ = some (.int .i64 fn))) [11] (by kernel_rfl) ?hS13r34n1 (fun hHeld => ?hR13r34n1))
            case hS13r34n1 => ((try dsimp only); (exact ⟨d1, dp⟩))
            refine wpAnyD_take (i := 0) (v := ?v13r34n1q1) rfl (by kernel_rfl) (by kernel_rfl) (by kernel_rfl) (fun _ _ _ h => h) (Or.inl ⟨by kernel_rfl, ?hy13r34n1q1⟩) (by assumption) (by kernel_rfl) ?hr13r34n1q1
            case hy13r34n1q1 => (intro w hSw; (try dsimp only at hSw); (obtain ⟨d1, dp⟩ := hSw); first | (go_simp; done) | (go_simp; with_reducible rfl))
            refine wpAnyD_take (i := 1) (v := ?v13r34n1q2) rfl (by kernel_rfl) (by kernel_rfl) (by kernel_rfl) (fun _ _ _ h => h) (Or.inl ⟨by kernel_rfl, ?hy13r34n1q2⟩) (by assumption) (by kernel_rfl) ?hr13r34n1q2
            case hy13r34n1q2 => (intro w hSw; (try dsimp only at hSw); (obtain ⟨d1, dp⟩ := hSw); first | (go_simp; done) | (go_simp; with_reducible rfl))
            refine wpAnyD_take (i := 2) (v := ?v13r34n1q3) rfl (by kernel_rfl) (by kernel_rfl) (by kernel_rfl) (fun _ _ _ h => h) (Or.inl ⟨by kernel_rfl, ?hy13r34n1q3⟩) (by assumption) (by kernel_rfl) ?hr13r34n1q3
            case hy13r34n1q3 => (intro w hSw; (try dsimp only at hSw); (obtain ⟨d1, dp⟩ := hSw); first | (go_simp; done) | (go_simp; with_reducible rfl))
            refine wpAnyD_take (i := 3) (v := ?v13r34n1q4) rfl (by kernel_rfl) (by kernel_rfl) (by kernel_rfl) (fun _ _ _ h => h) (Or.inl ⟨by kernel_rfl, ?hy13r34n1q4⟩) (by assumption) (by kernel_rfl) ?hr13r34n1q4
            case hy13r34n1q4 => (intro w hSw; (try dsimp only at hSw); (obtain ⟨d1, dp⟩ := hSw); first | (go_simp; done) | (go_simp; with_reducible rfl))
            refine wpAnyD_take (i := 4) (v := ?v13r34n1q5) rfl (by kernel_rfl) (by kernel_rfl) (by kernel_rfl) (fun _ _ _ h => h) (Or.inl ⟨by kernel_rfl, ?hy13r34n1q5⟩) (by assumption) (by kernel_rfl) ?hr13r34n1q5
            case hy13r34n1q5 => (intro w hSw; (try dsimp only at hSw); (obtain ⟨d1, dp⟩ := hSw); first | (go_simp; done) | (go_simp; with_reducible rfl))
            refine wpAnyD_take (i := 5) (v := ?v13r34n1q6) rfl (by kernel_rfl) (by kernel_rfl) (by kernel_rfl) (fun _ _ _ h => h) (Or.inl ⟨by kernel_rfl, ?hy13r34n1q6⟩) (by assumption) (by kernel_rfl) ?hr13r34n1q6
            case hy13r34n1q6 => (intro w hSw; (try dsimp only at hSw); (obtain ⟨d1, dp⟩ := hSw); first | (go_simp; done) | (go_simp; with_reducible rfl))
            refine wpAnyD_take (i := 6) (v := ?v13r34n1q7) rfl (by kernel_rfl) (by kernel_rfl) (by kernel_rfl) (fun _ _ _ h => h) (Or.inl ⟨by kernel_rfl, ?hy13r34n1q7⟩) (by assumption) (by kernel_rfl) ?hr13r34n1q7
            case hy13r34n1q7 => (intro w hSw; (try dsimp only at hSw); (obtain ⟨d1, dp⟩ := hSw); first | (go_simp; done) | (go_simp; with_reducible rfl))
            refine wpAnyD_ready (rs := [7]) (by kernel_rfl) (by simp) (AllReadyD.cons rfl (by kernel_rfl) (fun K hK => ?hc13r34n1q8) AllReadyD.nil)
            go_simp
            ((first | refine intro_alloc (fun X1 hBX hL171 => ?_) | refine intro_alloc_drew (fun X1 hBX hL171 => ?_)); (first | (have hO2 := hO.below hBX) | (have hO2 := (hO.below (Below.refl _ _).drew).below hBX)); have hO := hO2; clear hO2 hBX; have d1 : X1.cell? ⟨J, 1, none⟩ = some (.slice na j.nums.length nc) := (by simp [World.cell?, hO.mid.box]); have dp : X1.cell? ⟨F, 0, none⟩ = some (.int .i64 fn) := (box5p hO.box).1; (try dsimp only))
            refine hK.out _ _ ?hs13r34n1q8 (fun hHeld13r34n1q8 => ?ht13r34n1q8)
            case hs13r34n1q8 => ((try dsimp only); (exact ⟨d1, dp⟩))
            clear hHeld hK
            have hHeld := hHeld13r34n1q8
            clear hHeld13r34n1q8
            refine wpAnyD_ready (rs := [8]) (by kernel_rfl) (by simp) (AllReadyD.cons rfl (by kernel_rfl) (fun K hK => ?hc13r34n1q9) AllReadyD.nil)
            (refine step_append_rd _ rfl (.tmp 168) (.tmp 171) rfl slInts w.heap.size _ _ _ rfl hO.mid.rn _ _ _ _ rfl (rd_lit1 hL171) (by intro u hu; simp at hu; subst hu; rfl) (by unfold maxLen; omega) (by omega) hO.low ?_; intro v172 w172 ho172 hg172 hd172 hnl172; obtain ⟨a172, c172, rfl, _, _⟩ := (Rd.of_own ho172).form; have hO2 := hO.push_n ho172 hg172 hd172 (by omega); have hO := hO2; have f1' := box_frozen hO.mid.box 1; have d1 : w172.cell? ⟨J, 1, none⟩ = some (.slice na j.nums.length nc) := (by simp [World.cell?, hO.mid.box]); have dp : w172.cell? ⟨F, 0, none⟩ = some (.int .i64 fn) := (box5p hO.box).1; clear hO2 ho172 hg172 hd172 hnl172; (try dsimp only))
            refine hK.out _ _ ?hs13r34n1q9 (fun hHeld13r34n1q9 => ?ht13r34n1q9)
            case hs13r34n1q9 => ((try dsimp only); (exact ⟨d1, dp⟩))
            clear hHeld hK
            have hHeld := hHeld13r34n1q9
            clear hHeld13r34n1q9
            refine wpAnyD_take (i := 9) (v := ?v13r34n1q10) rfl (by kernel_rfl) (by kernel_rfl) (by kernel_rfl) (fun _ _ _ h => h) (Or.inl ⟨by kernel_rfl, ?hy13r34n1q10⟩) (by assumption) (by kernel_rfl) ?hr13r34n1q10
            case hy13r34n1q10 => (intro w hSw; (try dsimp only at hSw); (obtain ⟨d1, dp⟩ := hSw); first | (go_simp; done) | (go_simp; with_reducible rfl))
            refine wpAnyD_take (i := 10) (v := ?v13r34n1q11) rfl (by kernel_rfl) (by kernel_rfl) (by kernel_rfl) (fun _ _ _ h => h) (Or.inl ⟨by kernel_rfl, ?hy13r34n1q11⟩) (by assumption) (by kernel_rfl) ?hr13r34n1q11
            case hy13r34n1q11 => (intro w hSw; (try dsimp only at hSw); (obtain ⟨d1, dp⟩ := hSw); first | (go_simp; done) | (go_simp; with_reducible rfl))
            refine wpAnyD_ready (rs := [11]) (by kernel_rfl) (by simp) (AllReadyD.last rfl (by kernel_rfl) (fun K hK => ?hc13r34n1q12) AllReadyD.nil)
            go_simp
            refine hK.out _ _ ?_
            clear hHeld hK
            have hHeld := True.intro
            refine wpAnyH_done (by kernel_rfl) ?_ _
            clear hHeld
            refine NoPanic.normal ?_
            (try dsimp only [Exit.inBlock, Exit.then])
            apply_assumption
            have hjA := hO.mid.done1
            have hrowA := own_boxt hO.row hO.mid.box (by decide) 1 (.slice a172 (j.nums.length + 1) c172)
            have hbelA := below_set hO.bel ⟨J, 1, none⟩ (.slice a172 (j.nums.length + 1) c172) hO.mid.hb
            refine wp_abs (fun X => RJIn X w.heap.size J dv (.slice a172 (j.nums.length + 1) c172) bv (.slice ta j.texts.length tc) { j with nums := j.nums ++ [fn], texts := j.texts } ∧ X.ownsRow w.heap.size 102 5 (.slice (some ⟨g, 0, none⟩) n c) n (partsC P) ∧ Below w.heap.size w X) ⟨hjA, hrowA, hbelA⟩ ?_
            clear hO hjA hrowA hbelA d1 dp f1'
            rintro X5 ⟨hj5, hrow5, hbel5⟩
            have hsz5 := hbel5.size
            have d2 := hj5.cells.2.2.1
            have hj5A : RJMid (X5.alloc (.cells #[.string tx] 9)) w.heap.size J dv (.slice a172 (j.nums.length + 1) c172) bv (.slice ta j.texts.length tc) (.slice a172 (j.nums.length + 1) c172) (.slice ta j.texts.length tc) { j with nums := j.nums ++ [fn], texts := j.texts } (j.nums ++ [fn]) j.texts := hj5.mid.below ((Below.refl _ _).alloc (Nat.le_refl _) (.cells #[.string tx] 9))
            have hrow5A := own_below hrow5 ((Below.refl _ _).alloc (Nat.le_refl _) (.cells #[.string tx] 9))
            have hlit := Rd.fresh X5 #[.string tx] 9 1 1 rfl (by decide)
            go_wp2_with (first
              | (at_builtin; refine wpList_append_rd _ rfl (.tmp 179) (.tmp 181) rfl slStrs w.heap.size _ _ _ rfl hj5A.rt _ _ _ _ rfl hlit (by intro u hu; simp at hu; subst hu; rfl) (by unfold maxLen; omega) (by omega) (by simp; omega) ?_; intro v9 w9 ho9 hg9 hd9 hnl9; clear hnl9 hd9; obtain ⟨a9, c9, rfl, _, _⟩ := (Rd.of_own ho9).form; have hM9 := hj5A.push_t ho9 hg9 (by omega); have hrow9 := own_other hrow5A hj5A.rt hg9 (by decide); have hb9 := below_own (hbel5.alloc hsz5 _) hg9 (own_blk hj5A.rt) (by simp; omega); have f9 := box_frozen hM9.box 2; have d9 : w9.cell? ⟨J, 2, none⟩ = some (.slice ta j.texts.length tc) := (by simp [World.cell?, hM9.box]))
              | fail)
            refine ⟨LoopI.mk rfl ⟨rfl, rfl, rfl, i + l, f1, { j with nums := j.nums ++ [fn], texts := j.texts ++ [tx] }, _, bv, _, by omega, by show Value.int _ _ = _; go_num, by omega, HT2.out.symm, hM9.done2, own_boxt hrow9 hM9.box (by decide) 2 _, ?_, ?_, hjb, below_set hb9 _ _ hM9.hb⟩, ?_⟩
            · show (j.nums ++ [fn]).length ≤ _
              rw [List.length_append]
              show j.nums.length + 1 ≤ _
              omega
            · show (j.texts ++ [tx]).length ≤ _
              rw [List.length_append]
              show j.texts.length + 1 ≤ _
              omega
            · show n - _ < n - _
              simp [natI]; omega
    · have hin2 : i = n := by omega
      have hii2 : ¬ (i : Int) < (n : Int) := by omega
      have hjZ : j = Z := by
        rw [← hjz, hin2, ← HPL.out, List.drop_length]
        cases f with
        | zero => omega
        | succ f => rfl
      rw [hjZ, HZ.out] at hj
      clear hjz hjZ hin2
      go_wp2
      refine bodyPost_ret (P := Tryz.prog) (fn := Tryz.f13) (results_tmp2 rfl _ _ _) (by kernel_rfl) ?_
      exact ⟨_, by kernel_rfl, ⟨J, nv, bv, tv, rfl, by rw [← HDV.out]; exact hj⟩, hbw⟩
end Go.Proofs.YtipbkdlekanlmaaGreatDoor
