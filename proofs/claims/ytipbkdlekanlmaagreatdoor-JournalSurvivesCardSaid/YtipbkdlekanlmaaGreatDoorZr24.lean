/- Journal: the code's Open. -/
import Derived.Test.YtipbkdlekanlmaaGreatDoorZr23
namespace Go.Proofs.YtipbkdlekanlmaaGreatDoor
open Go.RowKit Go.Lab Go.Disk Go.Jn
attribute [local go_sem] Oper.semAt_some
set_option maxRecDepth 100000
theorem range_map140 (f : Nat → Value) : (List.range 140).map f = [f 0, f 1, f 2, f 3, f 4, f 5, f 6, f 7, f 8, f 9, f 10, f 11, f 12, f 13, f 14, f 15, f 16, f 17, f 18, f 19, f 20, f 21, f 22, f 23, f 24, f 25, f 26, f 27, f 28, f 29, f 30, f 31, f 32, f 33, f 34, f 35, f 36, f 37, f 38, f 39, f 40, f 41, f 42, f 43, f 44, f 45, f 46, f 47, f 48, f 49, f 50, f 51, f 52, f 53, f 54, f 55, f 56, f 57, f 58, f 59, f 60, f 61, f 62, f 63, f 64, f 65, f 66, f 67, f 68, f 69, f 70, f 71, f 72, f 73, f 74, f 75, f 76, f 77, f 78, f 79, f 80, f 81, f 82, f 83, f 84, f 85, f 86, f 87, f 88, f 89, f 90, f 91, f 92, f 93, f 94, f 95, f 96, f 97, f 98, f 99, f 100, f 101, f 102, f 103, f 104, f 105, f 106, f 107, f 108, f 109, f 110, f 111, f 112, f 113, f 114, f 115, f 116, f 117, f 118, f 119, f 120, f 121, f 122, f 123, f 124, f 125, f 126, f 127, f 128, f 129, f 130, f 131, f 132, f 133, f 134, f 135, f 136, f 137, f 138, f 139] := rfl
theorem frame140 (t : Array Value) (ds : List Deferred) (h : t.size = 140) : ({ tmps := t, defers := ds } : Act) = { tmps := #[slot t 0, slot t 1, slot t 2, slot t 3, slot t 4, slot t 5, slot t 6, slot t 7, slot t 8, slot t 9, slot t 10, slot t 11, slot t 12, slot t 13, slot t 14, slot t 15, slot t 16, slot t 17, slot t 18, slot t 19, slot t 20, slot t 21, slot t 22, slot t 23, slot t 24, slot t 25, slot t 26, slot t 27, slot t 28, slot t 29, slot t 30, slot t 31, slot t 32, slot t 33, slot t 34, slot t 35, slot t 36, slot t 37, slot t 38, slot t 39, slot t 40, slot t 41, slot t 42, slot t 43, slot t 44, slot t 45, slot t 46, slot t 47, slot t 48, slot t 49, slot t 50, slot t 51, slot t 52, slot t 53, slot t 54, slot t 55, slot t 56, slot t 57, slot t 58, slot t 59, slot t 60, slot t 61, slot t 62, slot t 63, slot t 64, slot t 65, slot t 66, slot t 67, slot t 68, slot t 69, slot t 70, slot t 71, slot t 72, slot t 73, slot t 74, slot t 75, slot t 76, slot t 77, slot t 78, slot t 79, slot t 80, slot t 81, slot t 82, slot t 83, slot t 84, slot t 85, slot t 86, slot t 87, slot t 88, slot t 89, slot t 90, slot t 91, slot t 92, slot t 93, slot t 94, slot t 95, slot t 96, slot t 97, slot t 98, slot t 99, slot t 100, slot t 101, slot t 102, slot t 103, slot t 104, slot t 105, slot t 106, slot t 107, slot t 108, slot t 109, slot t 110, slot t 111, slot t 112, slot t 113, slot t 114, slot t 115, slot t 116, slot t 117, slot t 118, slot t 119, slot t 120, slot t 121, slot t 122, slot t 123, slot t 124, slot t 125, slot t 126, slot t 127, slot t 128, slot t 129, slot t 130, slot t 131, slot t 132, slot t 133, slot t 134, slot t 135, slot t 136, slot t 137, slot t 138, slot t 139], defers := ds } := by
  have e : t = ((List.range 140).map (slot t)).toArray := by
    apply Array.ext
    · simp [h]
    · intro i h1 h2
      simp [slot, Array.getD, h1]
  rw [range_map140] at e
  exact congrArg (fun x => ({ tmps := x, defers := ds } : Act)) e
theorem wpList_cutA {P : Program} {ops : Array Oper} {Q : Exit → Act → World → Prop} {rest : List Oper} {a : Act} {w : World} (N : Nat) (R : Array Value → List Deferred → Prop) (hs : a.tmps.size = N) (hR : R a.tmps a.defers) (k : ∀ t ds, t.size = N → R t ds → wpList P ops Q rest { tmps := t, defers := ds } w) : wpList P ops Q rest a w := k _ _ hs hR
theorem disk_ptr {w : World} {lo hi : Nat} {p : Value} {D : Dk} (h : DiskAt w lo hi p D) : ∃ q, p = .pointer (some ⟨q, 0, none⟩) := by
  obtain ⟨b, g, mb, wb, c, l, P, W, hp, h⟩ := h
  exact ⟨b, hp⟩
set_option maxHeartbeats 2000000 in
theorem open_off (dv : Value) (D : Dk) (w : World) (dlo dhi : Nat) (hd : DiskAt w dlo dhi dv D) (hoff : D.off = true) :
    Calls Tryz.prog 12 #[dv] w fun e w' => e = .returned (.tuple #[.pointer none, .int .i64 25]) ∧ Below w.heap.size w w' := by
  obtain ⟨q, rfl⟩ := disk_ptr hd
  obtain ⟨dv, hdv⟩ : ∃ dv, dv = Value.pointer (some ⟨q, 0, none⟩) := ⟨_, rfl⟩
  rw [← hdv] at hd
  have HL := hidep (fun Y (hY : Below w.heap.size w Y) => len_any dv D Y dlo dhi (hd.below hY))
  have HR := hidep (fun Y (hY : Below w.heap.size w Y) => read_any dv D 0 Y dlo dhi (hd.below hY) (by omega))
  have hz : readZ D 0 = (ByteArray.empty, 25) := by unfold readZ; rw [if_pos hoff]
  rw [hz] at HR
  have hn1 := hd.ok.1.1
  obtain ⟨n, hn⟩ : ∃ n, n = D.s.length := ⟨_, rfl⟩
  rw [← hn] at HL hn1
  have hn0 : (0 : Int) < (n : Int) := by omega
  clear hn hd hoff hz
  go_enter Tryz.func12, Tryz.ntmps12
  go_upto_region 2 with (fail)
  refine wp_abs (fun X => Below w.heap.size w X) ((Below.refl _ _).alloc (Nat.le_refl _) _) ?_
  rintro X hbX
  refine wp_cutA 140 (fun tm ds => ds = [] ∧ slot tm 0 = dv) (by kernel_rfl) (by exact ⟨by kernel_rfl, by rw [hdv]; kernel_rfl⟩) ?_
  rintro tA dA h140 ⟨rfl, e0⟩
  rw [frame140 tA [] h140, e0]
  clear h140 e0 hdv
  go_upto_region 4 with (first
    | (go_at_call 47; refine (HL.out _ hbX).mono ?_; rintro e w3 ⟨rfl, rfl⟩)
    | fail)
  refine wp_loop (LoopI 140 (fun tm ds wr => (slot tm 0) = dv ∧ (slot tm 19) = .int .i64 (n : Nat) ∧ (slot tm 20) = .int .i64 0 ∧ ds = [] ∧ Below w.heap.size w wr)) (fun a' wr => 0) ?wr1Start ?wr1Round
  case' wr1Start => refine LoopI.mk rfl ?_
  case' wr1Round => (rintro ⟨t, ds⟩ wr ⟨hts, hrel⟩; dsimp only at hts hrel; rw [frame140 t ds hts])
  case wr1Start => exact ⟨rfl, rfl, rfl, rfl, hbX⟩
  clear hbX
  obtain ⟨e0, e19, e20, hds, hbw⟩ := hrel
  subst hds
  rw [e0, e19, e20]
  clear e0 e19 e20 hts
  go_wp2_with (first
    | (go_at_call 48; refine (HR.out _ hbw).mono ?_; rintro e w5 ⟨rfl, hb5⟩)
    | fail)
  refine bodyPost_ret (P := Tryz.prog) (fn := Tryz.f12) (results_tmp2 rfl _ _ _) (by kernel_rfl) ?_
  exact ⟨by kernel_rfl, hbw.trans (hb5.mono hbw.size)⟩
theorem part_oneL (p : PartZ) : ∀ u ∈ (partC p).toList, u.oneCell' = true := by
  intro u hu
  have h := part_one p
  rw [Array.all_eq_true_iff_forall_mem] at h
  exact h u (by simpa using hu)
theorem partsC_snoc (l : List PartZ) (p : PartZ) : partsC (l ++ [p]) = partsC l ++ (partC p).toList := by simp [partsC]
theorem parts_snoc (l : List ByteArray) (k : Nat) (h : k < l.length) : partsC ((l.map unpZ).take (k + 1)) = partsC ((l.map unpZ).take k) ++ (partC (unpZ l[k])).toList := by
  rw [take_succ' _ _ (by rw [List.length_map]; exact h), partsC_snoc, List.getElem_map]
/-- The state of the first loop. -/
def OpI (D : Dk) (n : Nat) (w : World) (J : Nat) (dv pv iv : Value) (wr : World) : Prop := ∃ (k : Nat) (j : JZ) (nv bv tv : Value), k ≤ n ∧ iv = .int .i64 (k : Nat) ∧
  scanAll jz0 0 (readsZ D) = scanAll j k ((readsZ D).drop k) ∧ JIn wr w.heap.size J dv nv bv tv j ∧ wr.ownsRow w.heap.size 94 5 pv k (partsC (((readsZ D).map unpZ).take k)) ∧
  j.nums = [] ∧ j.texts = [] ∧ j.bad.length ≤ k ∧ j.closed = false ∧ 0 ≤ j.stop ∧ j.stop ≤ (k : Int) ∧ 1 ≤ j.next ∧ j.next ≤ 4097 ∧ Below w.heap.size w wr
def scanA (j : JZ) (k : Nat) (b : Bool) : JZ := { j with stop := if b = true then j.stop else (k : Int) + 1 }
def scanB (j : JZ) (k : Nat) (b ok : Bool) : JZ := { j with bad := if ok = false ∧ b = false then j.bad ++ [(k : Int)] else j.bad }
def scanC (j : JZ) (num : Int) : JZ := { j with next := max j.next (num + 1) }
theorem scan_abc (j : JZ) (k : Nat) (s : ByteArray) : scanC (scanB (scanA j k (blankZ s)) k (blankZ s) (unpZ s).ok) (unpZ s).num = scanZ j k s := rfl
theorem scan_bad (j : JZ) (k : Nat) (s : ByteArray) (h : j.bad.length ≤ k) : (scanZ j k s).bad.length ≤ k + 1 := by
  unfold scanZ
  simp only
  split
  · rw [List.length_append]; exact Nat.add_le_add_right h 1
  · omega
theorem scan_stop (j : JZ) (k : Nat) (s : ByteArray) (h0 : 0 ≤ j.stop) (h1 : j.stop ≤ (k : Int)) : 0 ≤ (scanZ j k s).stop ∧ (scanZ j k s).stop ≤ ((k + 1 : Nat) : Int) := by
  unfold scanZ
  simp only
  split <;> omega
/-- The state within a round of the first loop. -/
def OpM (dv v10 : Value) (J E k n : Nat) (bz : Bool) (ps : List Value) (p : PartZ) (w0 : World) (j : JZ) (a : Act) (W : World) : Prop :=
  a.tmps.size = 140 ∧ a.defers = [] ∧ slot a.tmps 0 = dv ∧ slot a.tmps 4 = .pointer (some ⟨J, 0, none⟩) ∧ slot a.tmps 5 = v10 ∧ slot a.tmps 6 = .int .i64 (k : Int) ∧ slot a.tmps 9 = .pointer (some ⟨E, 0, none⟩) ∧ slot a.tmps 10 = .bool bz ∧ slot a.tmps 19 = .int .i64 (n : Int) ∧ slot a.tmps 20 = .int .i64 (k : Int) ∧
  ∃ nv bv tv, JIn W w0.heap.size J dv nv bv tv j ∧ W.ownsRow w0.heap.size 94 5 v10 (k + 1) ps ∧ W.heap[E]? = some (.cells (partC p) 94) ∧ Below w0.heap.size w0 W
/-- The state of the second loop. -/
def OpJ (P : List PartZ) (n : Nat) (w : World) (J g c : Nat) (dv : Value) (Z : JZ) (iv : Value) (wr : World) : Prop := ∃ (i f : Nat) (j : JZ) (nv bv tv : Value), i ≤ n ∧ iv = .int .i64 (i : Nat) ∧ n - i < f ∧ recsZ f j (P.drop i) = Z ∧
  JIn wr w.heap.size J dv nv bv tv j ∧ wr.ownsRow w.heap.size 94 5 (.slice (some ⟨g, 0, none⟩) n c) n (partsC P) ∧ j.nums.length ≤ i ∧ j.texts.length ≤ i ∧ j.bad.length ≤ n ∧ Below w.heap.size w wr
theorem partsC_drop : ∀ (l : List PartZ) (i : Nat), (partsC l).drop (i * 5) = partsC (l.drop i)
  | l, 0 => by simp
  | [], i + 1 => by simp [partsC]
  | p :: r, i + 1 => by
    rw [List.drop_succ_cons, ← partsC_drop r i, show (i + 1) * 5 = 5 + i * 5 from by omega, ← List.drop_drop]
    rfl
theorem rd_lit1 {X : World} {b : Nat} {e : TypeId} {x : Value} (h : X.heap[b]? = some (.cells #[x] e)) : Rd X (· = e) 1 (.slice (some ⟨b, 0, none⟩) 1 1) 1 [x] :=
  ⟨rfl, _, _, rfl, Nat.le_refl _, by unfold maxLen; omega, (fun e => by cases e), fun ad e _ => by
    injection e with e
    subst e
    exact ⟨rfl, _, _, _, rfl, h, fun j u hu => by simpa using hu⟩⟩
/-- What stands while a record that was found is put into the journal. -/
structure OpS (lo J g c o n : Nat) (pn : Int) (dv nv bv tv nv' tv' : Value) (P : List PartZ) (j : JZ) (nl : List Int) (tl : List ByteArray) (w0 X : World) : Prop where
  mid : JMid X lo J dv nv bv tv nv' tv' j nl tl
  row : X.ownsRow lo 94 5 (.slice (some ⟨g, 0, none⟩) n c) n (partsC P)
  bel : Below lo w0 X
  num : X.cell? ⟨g, o, none⟩ = some (.int .i64 pn)
section
variable {lo J g c o n : Nat} {pn : Int} {dv nv bv tv nv' tv' : Value} {P : List PartZ} {j : JZ} {nl : List Int} {tl : List ByteArray} {w0 X X' : World}
theorem OpS.below (h : OpS lo J g c o n pn dv nv bv tv nv' tv' P j nl tl w0 X) (hs : lo ≤ X.heap.size) (hb : Below X.heap.size X X') : OpS lo J g c o n pn dv nv bv tv nv' tv' P j nl tl w0 X' :=
  ⟨h.mid.below hb, own_below h.row hb, h.bel.trans (hb.mono hs), Turned.cell (Turned.of_below (T := fun _ => False) hb) h.num (fun h => h)⟩
theorem OpS.cells (h : OpS lo J g c o n pn dv nv bv tv nv' tv' P j nl tl w0 X) : X.cell? ⟨J, 1, none⟩ = some nv ∧ X.cell? ⟨J, 3, none⟩ = some tv ∧ X.cell? ⟨g, o, none⟩ = some (.int .i64 pn) := ⟨by simp [World.cell?, h.mid.box], by simp [World.cell?, h.mid.box], h.num⟩
theorem OpS.free (h : OpS lo J g c o n pn dv nv bv tv nv' tv' P j nl tl w0 X) (k : Nat) : X.frozen? ⟨J, k, none⟩ = false := box_frozen h.mid.box k
theorem grown_cell {W W' : World} {b o : Nat} {v : Value} {r : Option Nat} (hg : W.grownBy W' r) (hc : W.cell? ⟨b, o, none⟩ = some v) (hne : r ≠ some b) : W'.cell? ⟨b, o, none⟩ = some v := by
  have hl := World.block_lt_of_cell? W ⟨b, o, none⟩ hc
  have e := hg.block b hl (Ne.symm hne)
  simp only [World.cell?] at hc ⊢
  rw [e]
  exact hc
theorem own_apart {W : World} {B B' e e' k k' n n' b o c : Nat} {v : Value} {xs xs' : List Value} (h : W.ownsRow B e k (.slice (some ⟨b, o, none⟩) n c) n xs) (h' : W.ownsRow B' e' k' v n' xs') (hne : e ≠ e') : v.ownBlock ≠ some b := by
  intro hv
  rcases h.2 with ⟨h1, _⟩ | ⟨g, cap, cur, h1, _, hq, _⟩
  · cases h1
  · injection h1 with h1 _ _
    injection h1 with h1
    injection h1 with h1 _
    rcases h'.2 with ⟨rfl, _⟩ | ⟨g', cap', cur', rfl, _, hq', _⟩
    · cases hv
    · injection hv with hv
      subst h1 hv
      rw [hq] at hq'
      injection hq' with hq'
      injection hq' with _ h3 _
      exact hne h3
theorem OpS.push_n (h : OpS lo J g c o n pn dv nv bv tv nv' tv' P j nl tl w0 X) (hs : lo ≤ X.heap.size) {v : Value} {x : Int} (ho : X'.ownsRow lo 3 1 v (nl.length + 1) (intsC nl ++ [.int .i64 x])) (hg : X.grownBy X' nv'.ownBlock)
    (hd : v.ownBlock = nv'.ownBlock ∨ v.ownBlock = some X.heap.size) (hl : nl.length + 1 ≤ 10000) : OpS lo J g c o n pn dv nv bv tv v tv' P j (nl ++ [x]) tl w0 X' :=
  ⟨h.mid.push_n ho hg hd hl, own_other h.row h.mid.rn hg (by decide), below_own h.bel hg (own_blk h.mid.rn) hs, grown_cell hg h.num (own_apart h.row h.mid.rn (by decide))⟩
theorem OpS.push_t (h : OpS lo J g c o n pn dv nv bv tv nv' tv' P j nl tl w0 X) (hs : lo ≤ X.heap.size) {v : Value} {x : ByteArray} (ho : X'.ownsRow lo 9 1 v (tl.length + 1) (strL tl ++ [.string x])) (hg : X.grownBy X' tv'.ownBlock)
    (hl : tl.length + 1 ≤ 10000) : OpS lo J g c o n pn dv nv bv tv nv' v P j nl (tl ++ [x]) w0 X' :=
  ⟨h.mid.push_t ho hg hl, own_other h.row h.mid.rt hg (by decide), below_own h.bel hg (own_blk h.mid.rt) hs, grown_cell hg h.num (own_apart h.row h.mid.rt (by decide))⟩
theorem JMid.done' {w : World} {lo b : Nat} (h : JMid w lo b dv nv bv tv nv' tv' j nl tl) : JIn ((w.setCell ⟨b, 3, none⟩ tv').setCell ⟨b, 1, none⟩ nv') lo b dv nv' bv tv' { j with nums := nl, texts := tl } := by
  have h1 := heap_set h.box 3 tv'
  have h2 := heap_set h1 1 nv'
  exact ⟨h.hb, h2, own_boxt (own_boxt h.rn h.box (by decide) 3 _) h1 (by decide) 1 _, own_boxt (own_boxt h.rb h.box (by decide) 3 _) h1 (by decide) 1 _, own_boxt (own_boxt h.rt h.box (by decide) 3 _) h1 (by decide) 1 _, h.ne, h.len⟩
end
/-- Behind a record that was put into the journal. -/
def OpT (J g c i m n : Nat) (dv bv : Value) (P : List PartZ) (j : JZ) (w0 : World) (a : Act) (W : World) : Prop :=
  a.tmps.size = 140 ∧ a.defers = [] ∧ slot a.tmps 4 = .pointer (some ⟨J, 0, none⟩) ∧ slot a.tmps 5 = .slice (some ⟨g, 0, none⟩) n c ∧ slot a.tmps 11 = .int .i64 (i : Int) ∧ slot a.tmps 13 = .int .i64 (m : Int) ∧
  ∃ nv tv, JIn W w0.heap.size J dv nv bv tv j ∧ W.ownsRow w0.heap.size 94 5 (.slice (some ⟨g, 0, none⟩) n c) n (partsC P) ∧ Below w0.heap.size w0 W
set_option maxHeartbeats 8000000 in
theorem open_any (dv : Value) (D : Dk) (w : World) (dlo dhi : Nat) (hd : DiskAt w dlo dhi dv D) (hoff : D.off = false) (hk : w.rangeAt 2 0 (u32C ks0)) :
    Calls Tryz.prog 12 #[dv] w fun e w' => ∃ p, e = .returned (.tuple #[p, .int .i64 0]) ∧ JAt w' w.heap.size p dv (openZ D) ∧ Below w.heap.size w w' := by
  obtain ⟨q, rfl⟩ := disk_ptr hd
  obtain ⟨dv, hdv⟩ : ∃ dv, dv = Value.pointer (some ⟨q, 0, none⟩) := ⟨_, rfl⟩
  rw [← hdv] at hd
  have HDV := hidep hdv
  have HL := hidep (fun Y (hY : Below w.heap.size w Y) => len_any dv D Y dlo dhi (hd.below hY))
  obtain ⟨n, hn⟩ : ∃ n, n = D.s.length := ⟨_, rfl⟩
  have hok := hd.ok
  have HRD := hidep (show ∀ Y, Below w.heap.size w Y → ∀ k (hk : k < (readsZ D).length), (readsZ D)[k].size = 64 ∧ Calls Tryz.prog 48 #[dv, .int .i64 (k : Int)] Y fun e w' => e = .returned (.tuple #[.string (readsZ D)[k], .int .i64 0]) ∧ Below Y.heap.size Y w' from fun Y hY k hk => by
    have hk2 : k < D.s.length := by rw [← reads_len]; exact hk
    have h1 := read_on D hoff k hk2 hok
    have h4 := hok.1.2.1
    have h2 := read_any dv D (k : Int) Y dlo dhi (hd.below hY) (by omega)
    rw [h1.1] at h2
    rw [reads_get]
    exact ⟨h1.2, h2⟩)
  have hn1 := hok.1.1
  have hn2 := hok.1.2.1
  rw [← hn] at HL hn1 hn2
  have HN := hidep (show (readsZ D).length = n by rw [reads_len, hn])
  have HK := hidep hk
  clear hn hd hoff hok hk
  go_enter Tryz.func12, Tryz.ntmps12
  go_upto_region 2 with (fail)
  refine wp_abs (fun X => X.heap[w.heap.size]? = some (.cells #[dv, .slice none 0 0, .slice none 0 0, .slice none 0 0, .int .i64 1, .int .i64 0, .bool false] 89) ∧ Below w.heap.size w X) ⟨by rw [hdv]; exact heap_alloc_new _ _, (Below.refl _ _).alloc (Nat.le_refl _) _⟩ ?_
  rintro X ⟨hqJ, hbX⟩
  obtain ⟨J, hJ⟩ : ∃ J, J = w.heap.size := ⟨_, rfl⟩
  rw [← hJ] at hqJ
  have hJle : w.heap.size ≤ J := by omega
  refine wp_cutA 140 (fun tm ds => ds = [] ∧ slot tm 0 = dv ∧ slot tm 4 = .pointer (some ⟨J, 0, none⟩)) (by kernel_rfl) (by exact ⟨by kernel_rfl, by rw [hdv]; kernel_rfl, by rw [hJ]; kernel_rfl⟩) ?_
  rintro tA dA h140 ⟨rfl, e0, e4⟩
  rw [frame140 tA [] h140, e0, e4]
  clear h140 e0 e4 hdv hJ
  go_upto_region 4 with (first
    | (go_at_call 47; refine (HL.out _ hbX).mono ?_; rintro e w3 ⟨rfl, rfl⟩)
    | fail)
  refine wp_loop (LoopI 140 (fun tm ds wr => (slot tm 0) = dv ∧ (slot tm 4) = .pointer (some ⟨J, 0, none⟩) ∧ (slot tm 19) = .int .i64 (n : Nat) ∧ ds = [] ∧ OpI D n w J dv (slot tm 5) (slot tm 20) wr)) (fun a' wr => n - natI (a'.tmps.getD 20 undef)) ?wr1Start ?wr1Round
  case' wr1Start => refine LoopI.mk rfl ?_
  case' wr1Round => (rintro ⟨t, ds⟩ wr ⟨hts, hrel⟩; dsimp only at hts hrel; rw [frame140 t ds hts])
  case wr1Start => exact ⟨rfl, rfl, rfl, rfl, 0, jz0, _, _, _, Nat.zero_le _, rfl, by rw [List.drop_zero], ⟨hJle, hqJ, ⟨rfl, .inl ⟨rfl, rfl⟩⟩, ⟨rfl, .inl ⟨rfl, rfl⟩⟩, ⟨rfl, .inl ⟨rfl, rfl⟩⟩, .inl rfl, by decide⟩, ⟨rfl, .inl ⟨rfl, rfl⟩⟩, rfl, rfl, Nat.le_refl _, rfl, by decide, by decide, by decide, by decide, hbX⟩
  clear hbX hqJ
  obtain ⟨e0, e4, e19, hds, k, j, nv, bv, tv, hkn, e20, hsc, hj, hown, hjn, hjt, hjb, hjc, hs0, hs1, hx0, hx1, hbw⟩ := hrel
  subst hds
  rw [e0, e4, e19, e20]
  clear e0 e4 e19 e20 hts
  by_cases hkk : k < n
  · have hkl : k < (readsZ D).length := by rw [HN.out]; exact hkk
    have hki : (k : Int) < (n : Int) := by omega
    have hk0 : (0 : Int) ≤ (k : Int) := by omega
    obtain ⟨hs64, hRD⟩ := HRD.out wr hbw k hkl
    obtain ⟨s, hs⟩ : ∃ s, s = (readsZ D)[k] := ⟨_, rfl⟩
    rw [← hs] at hs64 hRD
    have HRK := hidep hRD
    have HS := hidep hs
    have HJ := hidep (And.intro hj (And.intro hsc (And.intro hown (And.intro hbw (And.intro hjn (And.intro hjt (And.intro hjb (And.intro hjc (And.intro hs0 (And.intro hs1 (And.intro hx0 hx1)))))))))))
    clear hRD hs hj hsc hown hjn hjt hjb hjc hs0 hs1 hx0 hx1
    go_upto_region 9 with (first
      | (go_at_call 48; refine HRK.out.mono ?_; rintro e w5 ⟨rfl, hb5⟩)
      | fail)
    have hbw := HJ.out.2.2.2.1
    obtain ⟨p, hp⟩ : ∃ p, p = unpZ s := ⟨_, rfl⟩
    have hU := unpack_any s w5 (HK.out.below (hbw.trans (hb5.mono hbw.size)))
    rw [← hp] at hU
    have HU := hidep hU
    have HP := hidep hp
    clear hU hp
    refine wp_region_lit ?_
    refine wpList_value rfl (v := .string s) (w' := w5) (by kernel_rfl) ?_
    refine wpList_enter rfl 49 #[.string s] (by kernel_rfl) HU.out ?_
    intro w6 hb6
    refine wpList_alloc_row zero_part _ rfl rfl ?_
    refine wpList_store_last (t := 94) (c := partC part0) (c' := partC p) w6 row_part.2 rfl (part_one p) rfl _ _ rfl (by kernel_rfl) (by kernel_rfl) ?_
    refine wpList_nil ?_
    apply_assumption
    refine wp_abs (fun X => X.heap[w6.heap.size]? = some (.cells (partC p) 94) ∧ Below wr.heap.size wr X) ⟨heap_alloc_new _ _, (hb5.trans (hb6.mono hb5.size)).alloc (Nat.le_trans hb5.size hb6.size) _⟩ ?_
    obtain ⟨E, hE⟩ : ∃ E, E = w6.heap.size := ⟨_, rfl⟩
    rw [← hE]
    have hEge : wr.heap.size ≤ E := by have := hb5.size; have := hb6.size; omega
    have hJE : J < E := by have := lt_of_block HJ.out.1.box; omega
    rintro X9 ⟨hqE, hb9⟩
    refine wp_cutA 140 (fun tm ds => ds = [] ∧ slot tm 0 = dv ∧ slot tm 4 = .pointer (some ⟨J, 0, none⟩) ∧ slot tm 5 = slot t 5 ∧ slot tm 6 = .int .i64 (k : Int) ∧ slot tm 7 = .string s ∧ slot tm 9 = .pointer (some ⟨E, 0, none⟩) ∧ slot tm 19 = .int .i64 (n : Int) ∧ slot tm 20 = .int .i64 (k : Int)) (by kernel_rfl) (by exact ⟨by kernel_rfl, by kernel_rfl, by kernel_rfl, by kernel_rfl, by kernel_rfl, by kernel_rfl, by rw [hE]; kernel_rfl, by kernel_rfl, by kernel_rfl⟩) ?_
    rintro tB dB h140 ⟨rfl, e0, e4, e5, e6, e7, e9, e19, e20⟩
    rw [frame140 tB [] h140, e0, e4, e5, e6, e7, e9, e19, e20]
    clear h140 e0 e4 e5 e6 e7 e9 e19 e20 hE HU hb5 hb6
    obtain ⟨pv, hpv⟩ : ∃ pv, pv = slot t 5 := ⟨_, rfl⟩
    rw [← hpv] at HJ ⊢
    clear hpv
    have hown := own_below HJ.out.2.2.1 hb9
    refine wp_seq ?_
    refine wp_region_lit ?_
    refine wpList_value rfl (v := pv) (w' := X9) (by kernel_rfl) ?_
    refine wpList_load_mid rfl 94 _ rfl E 0 (by kernel_rfl) (partC p).toList _ (range_of_arr hqE) row_part.1.choose_spec.1 row_part.1.choose_spec.2 row_part.2 ?_
    refine wpList_value rfl (v := .slice (some ⟨X9.heap.size, 0, none⟩) 1 1) (w' := X9.alloc (.cells (partC p) 94)) (by kernel_rfl) ?_
    refine wpList_append_rd _ rfl (.tmp 34) (.tmp 36) rfl slParts w.heap.size pv k _ (by kernel_rfl) (own_below hown ((Below.refl _ _).alloc (Nat.le_refl _) _)) _ _ _ _ (by kernel_rfl) (Rd.fresh X9 (partC p) 94 5 1 rfl (by decide)) (part_oneL p) (by unfold maxLen; omega) (by omega) (by have := hb9.size; have := hbw.size; simp; omega) ?_
    intro v10 w10 hown10 hgr10 hat10 hnl10
    clear hat10 hnl10
    refine wpList_value rfl (v := v10) (w' := w10) (by kernel_rfl) ?_
    refine wpList_nil ?_
    (try dsimp only [Exit.inBlock, Exit.then])
    refine wp_abs (fun Y => JIn Y w.heap.size J dv nv bv tv j ∧ Y.ownsRow w.heap.size 94 5 v10 (k + 1) (partsC (((readsZ D).map unpZ).take (k + 1))) ∧ Y.heap[E]? = some (.cells (partC p) 94) ∧ Below w.heap.size w Y) ⟨JIn.grown ((HJ.out.1.below hb9).below ((Below.refl _ _).alloc (Nat.le_refl _) _)) (own_below hown ((Below.refl _ _).alloc (Nat.le_refl _) _)) hgr10 (by decide) (by decide) (by decide),
      by rw [parts_snoc _ _ hkl, ← HS.out, ← HP.out]; exact hown10,
      (hgr10.block E (by have := lt_of_block hqE; simp; omega) (fun e => by have := HJ.out.2.2.1.lt E e.symm; omega)).trans (below_push ((Below.refl _ _).alloc (Nat.le_refl _) _) hqE),
      below_own ((hbw.trans (hb9.mono hbw.size)).alloc (Nat.le_trans hbw.size hb9.size) _) hgr10 (own_blk hown) (by have := hb9.size; have := hbw.size; simp; omega)⟩ ?_
    clear hown10 hgr10 hown hqE hb9
    rintro Y ⟨hjY, hownY, hqE, hbY⟩
    obtain ⟨c, X2, hcv, hcc, hb2, hrg, hs2⟩ := bytes_new Y s
    rw [hs64] at hcv hcc
    have hap := fun W => run_arrayAt (P := Tryz.prog) (w := W) 96 5 64 (some ⟨Y.heap.size, 0, none⟩) 64 c und_sect (by decide)
    obtain ⟨SL, hSL⟩ : ∃ SL, SL = byC (nums s) := ⟨_, rfl⟩
    have hSLl : SL.length = 64 := by rw [hSL, byC_length, nums_len, hs64]
    have heq := fun W => eql_sect s hs64 W
    rw [← hSL] at hrg heq
    obtain ⟨Z0, hZ0⟩ : ∃ Z0, Z0 = (byC (List.replicate 64 0)).toArray := ⟨_, rfl⟩
    rw [← hZ0] at heq
    have hgd := fun W => guard_sect .eql (.tmp 45) (.tmp 46) SL.toArray Z0 W
    have hbuild : ∀ (ev : Operand → Value) (W : World), (execOp ev ⟨some 46, .build 96 #[], 96, "journal.go:150", #[⟨3, .guard⟩], some (3, true)⟩).run Tryz.prog W = .ok (.value (.agg Z0)) W := fun ev W => by rw [hZ0]; kernel_rfl
    clear hZ0 hSL
    obtain ⟨bz, hbz⟩ : ∃ bz, bz = blankZ s := ⟨_, rfl⟩
    rw [show decide (s = zeros) = bz from hbz.symm] at heq
    refine wp_seq ?_
    refine wp_region_lit ?_
    refine wpList_value rfl (v := .string s) (w' := Y) (by kernel_rfl) ?_
    refine wpList_value rfl (v := .int .i64 64) (w' := Y) (by
      have e : ∀ ev : Operand → Value, ev (.tmp 38) = .string s → (execOp ev ⟨some 39, .call { callee := .builtin .len, args := #[.tmp 38], argTypes := #[9] }, 3, "journal.go:150", #[⟨0, .data⟩], none⟩).run Tryz.prog Y = .ok (.value (.int .i64 64)) Y := fun ev ha => by
        rw [show (64 : Int) = ((s.size : Nat) : Int) from by rw [hs64]; rfl]
        go_simp
      exact e _ (by kernel_rfl)) ?_
    refine wpList_value rfl (v := .bool true) (w' := Y) (by
      have e : ∀ ev : Operand → Value, ev (.tmp 39) = .int .i64 64 → ev (.const (.int .i64 64)) = .int .i64 64 → (execOp ev ⟨some 40, .binOp .eql 3 (.tmp 39) (.const (.int .i64 64)) 3, 4, "journal.go:150", #[⟨1, .data⟩], none⟩).run Tryz.prog Y = .ok (.value (.bool true)) Y := fun ev ha hc => by
        go_simp
      exact e _ (by kernel_rfl) rfl) ?_
    refine wpList_cutA 140 (fun tm ds => ds = [] ∧ slot tm 0 = dv ∧ slot tm 4 = .pointer (some ⟨J, 0, none⟩) ∧ slot tm 5 = v10 ∧ slot tm 6 = .int .i64 (k : Int) ∧ slot tm 7 = .string s ∧ slot tm 9 = .pointer (some ⟨E, 0, none⟩) ∧ slot tm 19 = .int .i64 (n : Int) ∧ slot tm 20 = .int .i64 (k : Int) ∧ slot tm 40 = .bool true) (by kernel_rfl) (by exact ⟨by kernel_rfl, by kernel_rfl, by kernel_rfl, by kernel_rfl, by kernel_rfl, by kernel_rfl, by kernel_rfl, by kernel_rfl, by kernel_rfl, by kernel_rfl⟩) ?_
    rintro tG dG h140 ⟨rfl, e0, e4, e5, e6, e7, e9, e19, e20, e40⟩
    rw [frame140 tG [] h140, e0, e4, e5, e6, e7, e9, e19, e20, e40]
    clear h140 e0 e4 e5 e6 e7 e9 e19 e20 e40
    refine wpList_value rfl (v := .bool true) (w' := Y) (by kernel_rfl) ?_
    refine wpList_value_g (by kernel_rfl) (v := .string s) (w' := Y) (by kernel_rfl) ?_
    refine wpList_value_g (by kernel_rfl) (v := .slice (some ⟨Y.heap.size, 0, none⟩) 64 c) (w' := X2) (by
      have e : ∀ ev : Operand → Value, ev (.tmp 42) = .string s → (execOp ev ⟨some 43, .convert 9 81 (.tmp 42), 81, "journal.go:150", #[⟨4, .data⟩, ⟨3, .guard⟩], some (3, true)⟩).run Tryz.prog Y = .ok (.value (.slice (some ⟨Y.heap.size, 0, none⟩) 64 c)) X2 := fun a ha => by
        simp [execOp, ha, hcv, Result.andThen]
      exact e _ (by kernel_rfl)) ?_
    refine wpList_value_g (by kernel_rfl) (v := .pointer (some ⟨Y.heap.size, 0, none⟩)) (w' := X2) (by
      have e : ∀ ev : Operand → Value, ev (.tmp 43) = .slice (some ⟨Y.heap.size, 0, none⟩) 64 c → (execOp ev ⟨some 44, .sliceToArrayPointer 96 (.tmp 43), 0, "journal.go:150", #[⟨5, .data⟩, ⟨3, .guard⟩], some (3, true)⟩).run Tryz.prog X2 = .ok (.value (.pointer (some ⟨Y.heap.size, 0, none⟩))) X2 := fun a ha => by
        simp [execOp, ha, hap, Result.andThen]
      exact e _ (by kernel_rfl)) ?_
    refine wpList_value_g (by kernel_rfl) (v := .agg SL.toArray) (w' := X2) (load_mid_run 96 _ rfl Y.heap.size 0 (by kernel_rfl) SL _ hrg row_sect.1.choose_spec.1 row_sect.1.choose_spec.2 (by rw [hSLl]; exact row_sect.2)) ?_
    refine wpList_cutA 140 (fun tm ds => ds = [] ∧ slot tm 0 = dv ∧ slot tm 4 = .pointer (some ⟨J, 0, none⟩) ∧ slot tm 5 = v10 ∧ slot tm 6 = .int .i64 (k : Int) ∧ slot tm 9 = .pointer (some ⟨E, 0, none⟩) ∧ slot tm 19 = .int .i64 (n : Int) ∧ slot tm 20 = .int .i64 (k : Int) ∧ slot tm 40 = .bool true ∧ slot tm 41 = .bool true ∧ slot tm 45 = .agg SL.toArray) (by kernel_rfl) (by exact ⟨by kernel_rfl, by kernel_rfl, by kernel_rfl, by kernel_rfl, by kernel_rfl, by kernel_rfl, by kernel_rfl, by kernel_rfl, by kernel_rfl, by kernel_rfl, by kernel_rfl⟩) ?_
    rintro tH dH h140 ⟨rfl, e0, e4, e5, e6, e9, e19, e20, e40, e41, e45⟩
    rw [frame140 tH [] h140, e0, e4, e5, e6, e9, e19, e20, e40, e41, e45]
    clear h140 e0 e4 e5 e6 e9 e19 e20 e40 e41 e45
    refine wpList_value_g (by kernel_rfl) (v := .agg Z0) (w' := X2) (hbuild _ _) ?_
    refine wpList_value_g (by kernel_rfl) (v := .bool bz) (w' := X2) (by
      have e : ∀ ev : Operand → Value, ev (.tmp 45) = .agg SL.toArray → ev (.tmp 46) = .agg Z0 → (execOp ev ⟨some 47, .binOp .eql 96 (.tmp 45) (.tmp 46) 96, 4, "journal.go:150", #[⟨7, .data⟩, ⟨8, .data⟩, ⟨3, .guard⟩], some (3, true)⟩).run Tryz.prog X2 = .ok (.value (.bool bz)) X2 := fun a ha hb => by
        simp [execOp, ha, hb, hgd, heq, Result.andThen]
      exact e _ (by kernel_rfl) (by kernel_rfl)) ?_
    refine wpList_value rfl (v := .bool bz) (w' := X2) (by kernel_rfl) ?_
    refine wpList_value rfl (v := .bool bz) (w' := X2) (by kernel_rfl) ?_
    refine wpList_nil ?_
    (try dsimp only [Exit.inBlock, Exit.then])
    refine wp_cutA 140 (fun tm ds => ds = [] ∧ slot tm 0 = dv ∧ slot tm 4 = .pointer (some ⟨J, 0, none⟩) ∧ slot tm 5 = v10 ∧ slot tm 6 = .int .i64 (k : Int) ∧ slot tm 9 = .pointer (some ⟨E, 0, none⟩) ∧ slot tm 10 = .bool bz ∧ slot tm 19 = .int .i64 (n : Int) ∧ slot tm 20 = .int .i64 (k : Int)) (by kernel_rfl) (by exact ⟨by kernel_rfl, by kernel_rfl, by kernel_rfl, by kernel_rfl, by kernel_rfl, by kernel_rfl, by kernel_rfl, by kernel_rfl, by kernel_rfl⟩) ?_
    rintro tC dC h140 ⟨rfl, e0, e4, e5, e6, e9, e10, e19, e20⟩
    rw [frame140 tC [] h140, e0, e4, e5, e6, e9, e10, e19, e20]
    clear h140 e0 e4 e5 e6 e9 e10 e19 e20 hcv hap heq hgd hbuild hrg
    have hj2 := hjY.below hb2
    have hown2 := own_below hownY hb2
    have hq2 := below_push hb2 hqE
    have hbw2 := hbY.trans (hb2.mono hbY.size)
    clear hjY hownY hqE hbY hb2 hs2 hcc hSLl
    have HBZ := hidep hbz
    clear hbz
    have hw1 : IntKind.i64.wrap ((k : Int) + 1) = (k : Int) + 1 := IntWalk.i64_in _ (by omega)
    refine wp_seq ?_
    refine wp_join (OpM dv v10 J E k n bz (partsC (((readsZ D).map unpZ).take (k + 1))) p w (scanA j k bz)) ?stA ?_
    case stA =>
      intro K' hMK
      cases bz with
      | true =>
        go_wp2
        exact ⟨rfl, rfl, rfl, rfl, rfl, rfl, rfl, rfl, rfl, rfl, nv, bv, tv, hj2, hown2, hq2, hbw2⟩
      | false =>
        have c5 := hj2.cells.2.2.2.2.2.1
        have f5 := box_frozen hj2.box 5
        go_wp2
        exact ⟨rfl, rfl, rfl, rfl, rfl, rfl, rfl, rfl, rfl, rfl, nv, bv, tv, hj2.stop _, own_boxt hown2 hj2.box (by decide) 5 _, (Below.heap_setCell _ _ _ E (fun e => by have : E = J := e; omega)).trans hq2, below_set hbw2 _ _ hJle⟩
    rintro ⟨tD, dD⟩ W3 ⟨h140, hds, e0, e4, e5, e6, e9, e10, e19, e20, nv3, bv3, tv3, hj3, hown3, hq3, hbw3⟩
    simp only at h140 hds e0 e4 e5 e6 e9 e10 e19 e20
    subst hds
    (try dsimp only [Exit.then])
    rw [frame140 tD [] h140, e0, e4, e5, e6, e9, e10, e19, e20]
    clear h140 e0 e4 e5 e6 e9 e10 e19 e20 hj2 hown2 hq2 hbw2
    obtain ⟨j3, hj3d⟩ : ∃ j3, j3 = scanA j k bz := ⟨_, rfl⟩
    rw [← hj3d] at hj3
    have hj3b : j3.bad.length ≤ k := by rw [hj3d]; exact HJ.out.2.2.2.2.2.2.1
    have HJ3 := hidep hj3d
    clear hj3d
    obtain ⟨pn, pp, pl, py, po⟩ := p
    obtain ⟨c0, c1, c2, c3, c4⟩ := box5p hq3
    simp only at c0 c1 c2 c3 c4
    refine wp_seq ?_
    refine wp_join (OpM dv v10 J E k n bz (partsC (((readsZ D).map unpZ).take (k + 1))) ⟨pn, pp, pl, py, po⟩ w (scanB j3 k bz po)) ?stB ?_
    case stB =>
      intro K' hMK
      cases po with
      | true =>
        have hB : scanB j3 k bz true = j3 := by simp [scanB]
        go_wp2
        exact ⟨rfl, rfl, rfl, rfl, rfl, rfl, rfl, rfl, rfl, rfl, nv3, bv3, tv3, by rw [hB]; exact hj3, hown3, hq3, hbw3⟩
      | false =>
        cases bz with
        | true =>
          have hB : scanB j3 k true false = j3 := by simp [scanB]
          go_wp2
          exact ⟨rfl, rfl, rfl, rfl, rfl, rfl, rfl, rfl, rfl, rfl, nv3, bv3, tv3, by rw [hB]; exact hj3, hown3, hq3, hbw3⟩
        | false =>
          have hB : scanB j3 k false false = { j3 with bad := j3.bad ++ [(k : Int)] } := by simp [scanB]
          have HBH := hidep hB
          clear hB
          obtain ⟨ba, bc, hbv, hbl, hbc⟩ := (Rd.of_own hj3.rb).form
          subst hbv
          have hj3A := hj3.below ((Below.refl _ _).alloc (Nat.le_refl _) (.cells #[.int .i64 (k : Int)] 3))
          have hlit := Rd.fresh W3 #[.int .i64 (k : Int)] 3 1 1 rfl (by decide)
          have cb := hj3.cells.2.2.1
          have hsz3 := hbw3.size
          go_wp2_with (first
            | (at_builtin; refine wpList_append_rd _ rfl (.tmp 67) (.tmp 69) rfl slInts w.heap.size _ _ _ rfl hj3A.rb _ _ _ _ rfl hlit (by intro u hu; simp at hu; subst hu; rfl) (by unfold maxLen; omega) (by omega) (by simp; omega) ?_; intro v15 w15 ho15 hg15 hd15 hnl15; clear hnl15; obtain ⟨a15, c15, rfl, _, _⟩ := (Rd.of_own ho15).form; have hx15 := grown_other hj3A.rb hg15 hj3A.box (by decide); have ho5 := own_other (own_below hown3 ((Below.refl _ _).alloc (Nat.le_refl _) (.cells #[.int .i64 (k : Int)] 3))) hj3A.rb hg15 (by decide); have hq5 := grown_other hj3A.rb hg15 (below_push ((Below.refl _ _).alloc (Nat.le_refl _) _) hq3) (by decide); have hb5 := below_own (hbw3.alloc hsz3 _) hg15 (own_blk hj3A.rb) (by simp; omega); have f15 := box_frozen hx15 2; have cl15 : w15.cell? ⟨J, 2, none⟩ = some (.slice ba j3.bad.length bc) := (by simp [World.cell?, hx15]); have hJ15 := hj3A.push_bad ho15 hg15 hd15 (by omega); clear hd15 hg15)
            | fail)
          exact ⟨rfl, rfl, rfl, rfl, rfl, rfl, rfl, rfl, rfl, rfl, nv3, _, tv3, by rw [HBH.out]; exact hJ15, own_boxt ho5 hx15 (by decide) 2 _, (Below.heap_setCell _ _ _ E (fun e => by have : E = J := e; omega)).trans hq5, below_set hb5 _ _ hJle⟩
    rintro ⟨tE, dE⟩ W4 ⟨h140, hds, e0, e4, e5, e6, e9, e10, e19, e20, nv4, bv4, tv4, hj4, hown4, hq4, hbw4⟩
    simp only at h140 hds e0 e4 e5 e6 e9 e10 e19 e20
    subst hds
    (try dsimp only [Exit.then])
    rw [frame140 tE [] h140, e0, e4, e5, e6, e9, e10, e19, e20]
    clear h140 e0 e4 e5 e6 e9 e10 e19 e20 hj3 hown3 hq3 hbw3 c0 c1 c2 c3 c4
    obtain ⟨j4, hj4d⟩ : ∃ j4, j4 = scanB j3 k bz po := ⟨_, rfl⟩
    rw [← hj4d] at hj4
    have hjz : scanC j4 pn = scanZ j k s := by
      have := scan_abc j k s
      rw [← HBZ.out, ← HP.out, ← HJ3.out, ← hj4d] at this
      exact this
    have hpr := unpZ_rng s
    rw [← HP.out] at hpr
    simp only at hpr
    have hnx : 1 ≤ j4.next ∧ j4.next ≤ 4097 := by
      rw [hj4d, HJ3.out]
      exact ⟨HJ.out.2.2.2.2.2.2.2.2.2.2.1, HJ.out.2.2.2.2.2.2.2.2.2.2.2⟩
    obtain ⟨nx, hnxd⟩ : ∃ nx, nx = j4.next := ⟨_, rfl⟩
    have d4 := hj4.cells.2.2.2.2.1
    have f4 := box_frozen hj4.box 4
    obtain ⟨d0, _, _, _, _⟩ := box5p hq4
    simp only at d0
    rw [← hnxd] at d4 hnx
    have HC := hidep (fun Y (hY : Below W4.heap.size W4 Y) => And.intro (Turned.cell (Turned.of_below (T := fun _ => False) hY) d4 (fun h => h)) (Turned.cell (Turned.of_below (T := fun _ => False) hY) d0 (fun h => h)))
    have hw4 : IntKind.i64.wrap (pn + 1) = pn + 1 := IntWalk.i64_in _ (by omega)
    have HNX := hidep (And.intro hjz (And.intro hj4d hnxd))
    have HPR := hidep hpr
    have HST := hidep (And.intro hj4 (And.intro hown4 (And.intro hq4 (And.intro hbw4 hnx))))
    clear hpr hjz hj4d hnxd d4 d0 hj4 hown4 hq4 hbw4 hnx
    obtain ⟨d4, _⟩ := HC.out W4 (Below.refl _ _)
    go_upto_region 16 with (fail)
    refine wp_region_noPanic (wp_region_heldD (S := (fun Y => Below W4.heap.size W4 Y)) [11] (by kernel_rfl) ?hS12r16n0 (fun hHeld => ?hR12r16n0))
    case hS12r16n0 => ((try dsimp only); (exact (Below.refl _ _).drew))
    refine wpAnyD_take (i := 0) (v := ?v12r16n0q1) rfl (by kernel_rfl) (by kernel_rfl) (by kernel_rfl) (fun _ _ _ h => h) (Or.inl ⟨by kernel_rfl, ?hy12r16n0q1⟩) (by assumption) (by kernel_rfl) ?hr12r16n0q1
    case hy12r16n0q1 => (intro w hSw; (try dsimp only at hSw); (obtain ⟨d4, d0⟩ := HC.out w hSw); first | (go_simp; done) | (go_simp; with_reducible rfl))
    refine wpAnyD_take (i := 1) (v := ?v12r16n0q2) rfl (by kernel_rfl) (by kernel_rfl) (by kernel_rfl) (fun _ _ _ h => h) (Or.inl ⟨by kernel_rfl, ?hy12r16n0q2⟩) (by assumption) (by kernel_rfl) ?hr12r16n0q2
    case hy12r16n0q2 => (intro w hSw; (try dsimp only at hSw); (obtain ⟨d4, d0⟩ := HC.out w hSw); first | (go_simp; done) | (go_simp; with_reducible rfl))
    refine wpAnyD_take (i := 2) (v := ?v12r16n0q3) rfl (by kernel_rfl) (by kernel_rfl) (by kernel_rfl) (fun _ _ _ h => h) (Or.inl ⟨by kernel_rfl, ?hy12r16n0q3⟩) (by assumption) (by kernel_rfl) ?hr12r16n0q3
    case hy12r16n0q3 => (intro w hSw; (try dsimp only at hSw); (obtain ⟨d4, d0⟩ := HC.out w hSw); first | (go_simp; done) | (go_simp; with_reducible rfl))
    refine wpAnyD_take (i := 3) (v := ?v12r16n0q4) rfl (by kernel_rfl) (by kernel_rfl) (by kernel_rfl) (fun _ _ _ h => h) (Or.inl ⟨by kernel_rfl, ?hy12r16n0q4⟩) (by assumption) (by kernel_rfl) ?hr12r16n0q4
    case hy12r16n0q4 => (intro w hSw; (try dsimp only at hSw); (obtain ⟨d4, d0⟩ := HC.out w hSw); first | (go_simp; done) | (go_simp; with_reducible rfl))
    refine wpAnyD_take (i := 4) (v := ?v12r16n0q5) rfl (by kernel_rfl) (by kernel_rfl) (by kernel_rfl) (fun _ _ _ h => h) (Or.inl ⟨by kernel_rfl, ?hy12r16n0q5⟩) (by assumption) (by kernel_rfl) ?hr12r16n0q5
    case hy12r16n0q5 => (intro w hSw; (try dsimp only at hSw); (obtain ⟨d4, d0⟩ := HC.out w hSw); first | (go_simp; done) | (go_simp; with_reducible rfl))
    refine wpAnyD_take (i := 5) (v := ?v12r16n0q6) rfl (by kernel_rfl) (by kernel_rfl) (by kernel_rfl) (fun _ _ _ h => h) (Or.inl ⟨by kernel_rfl, ?hy12r16n0q6⟩) (by assumption) (by kernel_rfl) ?hr12r16n0q6
    case hy12r16n0q6 => (intro w hSw; (try dsimp only at hSw); (obtain ⟨d4, d0⟩ := HC.out w hSw); first | (go_simp; done) | (go_simp; with_reducible rfl))
    refine wpAnyD_take (i := 6) (v := ?v12r16n0q7) rfl (by kernel_rfl) (by kernel_rfl) (by kernel_rfl) (fun _ _ _ h => h) (Or.inl ⟨by kernel_rfl, ?hy12r16n0q7⟩) (by assumption) (by kernel_rfl) ?hr12r16n0q7
    case hy12r16n0q7 => (intro w hSw; (try dsimp only at hSw); (obtain ⟨d4, d0⟩ := HC.out w hSw); first | (go_simp; done) | (go_simp; with_reducible rfl))
    refine wpAnyD_take (i := 7) (v := ?v12r16n0q8) rfl (by kernel_rfl) (by kernel_rfl) (by kernel_rfl) (fun _ _ _ h => h) (Or.inl ⟨by kernel_rfl, ?hy12r16n0q8⟩) (by assumption) (by kernel_rfl) ?hr12r16n0q8
    case hy12r16n0q8 => (intro w hSw; (try dsimp only at hSw); (obtain ⟨d4, d0⟩ := HC.out w hSw); first | (go_simp; done) | (go_simp; with_reducible rfl))
    refine wpAnyD_ready (rs := [8]) (by kernel_rfl) (by simp) (AllReadyD.cons rfl (by kernel_rfl) (fun K hK => ?hc12r16n0q9) AllReadyD.nil)
    go_simp
    refine hK.out _ _ ?hs12r16n0q9 (fun hHeld12r16n0q9 => ?ht12r16n0q9)
    case hs12r16n0q9 => ((try dsimp only); (exact hHeld))
    clear hHeld hK
    have hHeld := hHeld12r16n0q9
    clear hHeld12r16n0q9
    refine wpAnyD_take (i := 9) (v := ?v12r16n0q10) rfl (by kernel_rfl) (by kernel_rfl) (by kernel_rfl) (fun _ _ _ h => h) (Or.inl ⟨by kernel_rfl, ?hy12r16n0q10⟩) (by assumption) (by kernel_rfl) ?hr12r16n0q10
    case hy12r16n0q10 => (intro w hSw; (try dsimp only at hSw); (obtain ⟨d4, d0⟩ := HC.out w hSw); first | (go_simp; done) | (go_simp; with_reducible rfl))
    refine wpAnyD_take (i := 10) (v := ?v12r16n0q11) rfl (by kernel_rfl) (by kernel_rfl) (by kernel_rfl) (fun _ _ _ h => h) (Or.inl ⟨by kernel_rfl, ?hy12r16n0q11⟩) (by assumption) (by kernel_rfl) ?hr12r16n0q11
    case hy12r16n0q11 => (intro w hSw; (try dsimp only at hSw); (obtain ⟨d4, d0⟩ := HC.out w hSw); first | (go_simp; done) | (go_simp; with_reducible rfl))
    refine wpAnyD_ready (rs := [11]) (by kernel_rfl) (by simp) (AllReadyD.last rfl (by kernel_rfl) (fun K hK => ?hc12r16n0q12) AllReadyD.nil)
    go_simp
    (have hk := hHeld)
    refine hK.out _ _ ?_
    clear hHeld hK
    have hHeld := True.intro
    refine wpAnyH_done (by kernel_rfl) ?_ _
    clear hHeld
    refine NoPanic.normal ?_
    apply_assumption
    go_wp2
    have hN : { j4 with next := max nx (pn + 1) } = scanZ j k s := by
      rw [← HNX.out.1, HNX.out.2.2]
      rfl
    have hjN := (HST.out.1.nxt (max nx (pn + 1))).below (Below.refl _ _).drew
    have hoN := own_below (own_boxt HST.out.2.1 HST.out.1.box (by decide) 4 (.int .i64 (max nx (pn + 1)))) (Below.refl _ _).drew
    have hbN := (below_set HST.out.2.2.2.1 ⟨J, 4, none⟩ (.int .i64 (max nx (pn + 1))) hJle).drew
    have hnx := HST.out.2.2.2.2
    have hpr := HPR.out
    rw [hN] at hjN
    refine ⟨LoopI.mk rfl ⟨rfl, rfl, rfl, rfl, k + 1, scanZ j k s, nv4, bv4, tv4, by omega, by show Value.int _ _ = _; go_num, ?_, hjN, hoN, HJ.out.2.2.2.2.1, HJ.out.2.2.2.2.2.1, ?_, HJ.out.2.2.2.2.2.2.2.1, ?_, ?_, ?_, ?_, hbN⟩, ?_⟩
    · rw [HJ.out.2.1, drop_cons' _ _ hkl, ← HS.out]
      rfl
    · exact scan_bad j k s HJ.out.2.2.2.2.2.2.1
    · exact (scan_stop j k s HJ.out.2.2.2.2.2.2.2.2.1 HJ.out.2.2.2.2.2.2.2.2.2.1).1
    · exact (scan_stop j k s HJ.out.2.2.2.2.2.2.2.2.1 HJ.out.2.2.2.2.2.2.2.2.2.1).2
    · rw [← hN]
      show 1 ≤ max nx (pn + 1)
      omega
    · rw [← hN]
      show max nx (pn + 1) ≤ 4097
      omega
    · show n - _ < n - _
      simp [natI]; omega
  · have hkn2 : k = n := by omega
    have hsc2 : scanAll jz0 0 (readsZ D) = j := by
      rw [hsc, hkn2, ← HN.out, List.drop_length]
      rfl
    obtain ⟨P, hP⟩ : ∃ P, P = (readsZ D).map unpZ := ⟨_, rfl⟩
    have hPl : P.length = n := by rw [hP, List.length_map, HN.out]
    have hjz : recsZ (n + 1) j P = openZ D := by
      unfold openZ journalZ
      rw [hsc2, HN.out, ← hP]
    obtain ⟨Z, hZ⟩ : ∃ Z, Z = openZ D := ⟨_, rfl⟩
    rw [← hZ] at hjz
    have HZ := hidep hZ
    have HP := hidep (show (∀ p ∈ P, 0 ≤ p.num ∧ p.num ≤ 4096 ∧ 0 ≤ p.part ∧ p.part < 65536 ∧ 0 ≤ p.left ∧ p.left < 65536 ∧ p.pay.size ≤ 48) ∧ (∀ p ∈ P, p.ok = true → p.left ≤ 8000) from by
      constructor
      · intro p hp
        rw [hP] at hp
        obtain ⟨s, _, rfl⟩ := List.mem_map.1 hp
        exact unpZ_rng s
      · intro p hp ho
        rw [hP] at hp
        obtain ⟨s, _, rfl⟩ := List.mem_map.1 hp
        exact (unp_left s ho).1)
    rw [hkn2, ← hP, List.take_of_length_le (by omega)] at hown
    have hki : ¬ (k : Int) < (n : Int) := by omega
    clear hP hZ hsc hsc2 hkn2 hkk
    obtain ⟨pv, hpv⟩ : ∃ pv, pv = slot t 5 := ⟨_, rfl⟩
    rw [← hpv] at hown ⊢
    clear hpv
    have hnn : pv ≠ .slice none 0 0 := fun e => by
      have h2 := hown.1
      rw [e] at hown
      rcases hown.2 with ⟨_, h0⟩ | ⟨g, cap, cur, he, _⟩
      · omega
      · cases he
    obtain ⟨g, c, rfl, hg1, hg2⟩ := own_block hown hnn
    clear hnn
    obtain ⟨za, zc, hz, hcn, hcm⟩ := (Rd.of_own hown).form
    have hzc : zc = c := by
      injection hz with _ _ h
      exact h.symm
    rw [hzc] at hcn hcm
    unfold maxLen at hcm
    clear hz hzc
    have HPL := hidep hPl
    clear hPl
    go_upto_region 19 with (fail)
    refine wp_loop (LoopI 140 (fun tm ds wr => (slot tm 4) = .pointer (some ⟨J, 0, none⟩) ∧ (slot tm 5) = .slice (some ⟨g, 0, none⟩) n c ∧ ds = [] ∧ OpJ P n w J g c dv Z (slot tm 11) wr)) (fun a' wr => n - natI (a'.tmps.getD 11 undef)) ?wr2Start ?wr2Round
    case' wr2Start => refine LoopI.mk rfl ?_
    case' wr2Round => (rintro ⟨t, ds⟩ wr ⟨hts, hrel⟩; dsimp only at hts hrel; rw [frame140 t ds hts])
    case wr2Start => exact ⟨rfl, rfl, rfl, 0, n + 1, j, nv, bv, tv, Nat.zero_le _, rfl, by omega, by rw [List.drop_zero]; exact hjz, hj, hown, by rw [hjn]; exact Nat.zero_le _, by rw [hjt]; exact Nat.zero_le _, by omega, hbw⟩
    clear hj hown hjn hjt hjb hjc hs0 hs1 hx0 hx1 hbw hjz hg1 hg2 hkn hki
    obtain ⟨e4, e5, hds, i, f, j, nv, bv, tv, hin, e11, hf, hjz, hj, hown, hjn, hjt, hjb, hbw⟩ := hrel
    subst hds
    rw [e4, e5, e11]
    clear e4 e5 e11 hts
    by_cases hii : i < n
    · have hii2 : (i : Int) < (n : Int) := by omega
      have hi0 : (0 : Int) ≤ (i : Int) := by omega
      have hiP : i < P.length := by rw [HPL.out]; exact hii
      have hdl : (P.drop i).length = n - i := by rw [List.length_drop, HPL.out]
      have hrd : PartsR wr (.slice (some ⟨g, i * 5, none⟩) (n - i) (c - i)) (P.drop i) := by
        have h := Rd.part (Rd.of_own hown) (l := i) (hh := n) (m := c) (by omega) (Nat.le_refl _) hcn (Nat.le_refl _)
        rw [if_neg (by omega), List.take_of_length_le (by rw [List.length_drop, partsC_len, HPL.out]; rw [Nat.sub_mul]; omega), partsC_drop] at h
        unfold PartsR
        rw [hdl]
        simp only [Option.map, Addr.add, Nat.zero_add] at h
        have e : (if i * 5 = 0 then (⟨g, 0, none⟩ : Addr) else ⟨g, i * 5, none⟩) = ⟨g, i * 5, none⟩ := by
          split
          · rename_i h0
            rw [h0]
          · rfl
        rw [e] at h
        exact h.mono (fun _ _ => trivial)
      obtain ⟨f1, rfl⟩ : ∃ f1, f = f1 + 1 := ⟨f - 1, by omega⟩
      have hcons := List.drop_eq_getElem_cons hiP
      obtain ⟨p, hp⟩ : ∃ p, p = P[i] := ⟨_, rfl⟩
      rw [← hp] at hcons
      have hrc := rec_cnt (P.drop i) 
      have HRC := hidep (record_any _ (P.drop i) wr hrd (by rw [hcons]; exact List.cons_ne_nil _ _) (fun q hq => HP.out.1 q (List.mem_of_mem_drop hq)) (by rw [hdl]; omega))
      have hcell : wr.cell? ⟨g, i * 5, none⟩ = some (.int .i64 p.num) := by
        have h := (PartsR.range (w := wr) (b := g) (o := 0) (c := c) (l := P) (by unfold PartsR; rw [HPL.out]; exact (Rd.of_own hown).mono (fun _ _ => trivial)) i hiP) 0 (.int .i64 p.num) (by rw [← hp]; rfl)
        simpa using h
      have hpr := HP.out.1 p (by rw [hp]; exact List.getElem_mem hiP)
      obtain ⟨r, hr⟩ : ∃ r, r = recordZ (P.drop i) := ⟨_, rfl⟩
      have hbnd := fun h => rec_cnt (P.drop i) h (fun q hq => HP.out.2 q (List.mem_of_mem_drop hq)) (fun q hq => (HP.out.1 q (List.mem_of_mem_drop hq)).2.2.2.2.1)
      rw [hdl] at hbnd
      have hstep : recsZ (f1 + 1) j (P.drop i) = if r.2.2 = true then recsZ f1 (foundZ j p.num r.1) (P.drop (i + r.2.1.toNat)) else recsZ f1 j (P.drop (i + 1)) := by
        rw [← List.drop_drop, hr, hcons]
        rfl
      rw [hjz] at hstep
      rw [← hr] at HRC hbnd
      obtain ⟨rt, rc, ro⟩ := r
      simp only [recV] at HRC hbnd hstep
      have HS := hidep hstep
      have HBD := hidep hbnd
      have HPI := hidep (And.intro hp (And.intro hr hcons))
      have HST := hidep (And.intro hj (And.intro hown (And.intro hjn (And.intro hjt (And.intro hjb (And.intro hbw (And.intro hcell (And.intro hpr hf))))))))
      clear hstep hbnd hp hr hcons hj hown hjn hjt hjb hbw hcell hpr hf hjz hdl hrd hrc
      go_upto_region 21 with (first
        | (go_at_call 50; refine HRC.out.mono ?_; rintro e w20 ⟨rfl, hb20⟩)
        | fail)
      have hj20 := HST.out.1.below hb20
      have hown20 := own_below HST.out.2.1 hb20
      have hjn := HST.out.2.2.1
      have hjt := HST.out.2.2.2.1
      have hjb := HST.out.2.2.2.2.1
      have hbw20 := HST.out.2.2.2.2.2.1.trans (hb20.mono HST.out.2.2.2.2.2.1.size)
      have hcp := Turned.cell (Turned.of_below (T := fun _ => False) hb20) HST.out.2.2.2.2.2.2.1 (fun h => h)
      have hff := HST.out.2.2.2.2.2.2.2.2
      have hwi : IntKind.i64.wrap ((i : Int) + 1) = (i : Int) + 1 := IntWalk.i64_in _ (by omega)
      cases ro with
      | false =>
        have hst := HS.out
        rw [if_neg (by decide)] at hst
        have HT := hidep hst
        clear hst hcp
        go_wp2
        refine ⟨LoopI.mk rfl ⟨rfl, rfl, rfl, i + 1, f1, j, nv, bv, tv, by omega, by show Value.int _ _ = _; go_num, by omega, HT.out.symm, hj20, hown20, by omega, by omega, hjb, hbw20⟩, ?_⟩
        show n - _ < n - _
        simp [natI]; omega
      | true =>
        have hst := HS.out
        rw [if_pos rfl] at hst
        obtain ⟨hr1, hr2, _⟩ := HBD.out rfl
        obtain ⟨m, rfl⟩ : ∃ m : Nat, rc = (m : Int) := ⟨rc.toNat, by omega⟩
        rw [Int.toNat_natCast] at hst
        have hwm : IntKind.i64.wrap ((i : Int) + (m : Int)) = (i : Int) + (m : Int) := IntWalk.i64_in _ (by omega)
        have HT := hidep hst
        clear hst
        obtain ⟨pn, hpn⟩ : ∃ pn, pn = p.num := ⟨_, rfl⟩
        rw [← hpn] at hcp HT
        obtain ⟨na, nc, rfl, hnl, hnc⟩ := (Rd.of_own hj20.rn).form
        obtain ⟨ta, tc, rfl, htl, htc⟩ := (Rd.of_own hj20.rt).form
        have hrn := (Rd.of_own hj20.rn).mono (T' := fun _ => True) (fun _ _ => trivial)
        obtain ⟨bm, hbm⟩ : ∃ bm, bm = decide (pn ∈ j.nums) := ⟨_, rfl⟩
        have HCT := hidep (fun Y (hY : Below w20.heap.size w20 Y) => contains_any _ j.nums pn Y (hrn.below hY) (by omega))
        rw [← hbm] at HCT
        have hO : OpS w.heap.size J g c (i * 5) n pn dv _ bv _ _ _ P j j.nums j.texts w w20 := ⟨hj20.mid, hown20, hbw20, hcp⟩
        have hs20 : w.heap.size ≤ w20.heap.size := hbw20.size
        have HC := hidep (fun Y (hY : Below w20.heap.size w20 Y) => (hO.below hs20 hY).cells)
        have HO := hidep hO
        have HBM := hidep hbm
        clear hbm hpn hrn hO hcp hj20 hown20 hbw20
        go_upto_region 23 with (fail)
        refine wp_region_noPanic (wp_region_held_drew (S := (fun Y => Below w20.heap.size w20 Y)) (by kernel_rfl) ?hS12r23n1 (fun hHeld => ?hR12r23n1))
        case hS12r23n1 => ((try dsimp only); (exact (Below.refl _ _).drew))
        refine wpAnyH_take (i := 0) (v := ?v12r23n1q1) rfl (by kernel_rfl) (by kernel_rfl) (by kernel_rfl) (fun _ _ _ h => h) (Or.inl ⟨by kernel_rfl, ?hy12r23n1q1⟩) (by assumption) ?hr12r23n1q1
        case hy12r23n1q1 => (intro w hSw; (try dsimp only at hSw); (obtain ⟨d1, d3, dp⟩ := HC.out w hSw); first | (go_simp; done) | (go_simp; with_reducible rfl))
        refine wpAnyH_take (i := 1) (v := ?v12r23n1q2) rfl (by kernel_rfl) (by kernel_rfl) (by kernel_rfl) (fun _ _ _ h => h) (Or.inl ⟨by kernel_rfl, ?hy12r23n1q2⟩) (by assumption) ?hr12r23n1q2
        case hy12r23n1q2 => (intro w hSw; (try dsimp only at hSw); (obtain ⟨d1, d3, dp⟩ := HC.out w hSw); first | (go_simp; done) | (go_simp; with_reducible rfl))
        refine wpAnyH_take (i := 2) (v := ?v12r23n1q3) rfl (by kernel_rfl) (by kernel_rfl) (by kernel_rfl) (fun _ _ _ h => h) (Or.inl ⟨by kernel_rfl, ?hy12r23n1q3⟩) (by assumption) ?hr12r23n1q3
        case hy12r23n1q3 => (intro w hSw; (try dsimp only at hSw); (obtain ⟨d1, d3, dp⟩ := HC.out w hSw); first | (go_simp; done) | (go_simp; with_reducible rfl))
        refine wpAnyH_take (i := 3) (v := ?v12r23n1q4) rfl (by kernel_rfl) (by kernel_rfl) (by kernel_rfl) (fun _ _ _ h => h) (Or.inl ⟨by kernel_rfl, ?hy12r23n1q4⟩) (by assumption) ?hr12r23n1q4
        case hy12r23n1q4 => (intro w hSw; (try dsimp only at hSw); (obtain ⟨d1, d3, dp⟩ := HC.out w hSw); first | (go_simp; done) | (go_simp; with_reducible rfl))
        refine wpAnyH_take (i := 4) (v := ?v12r23n1q5) rfl (by kernel_rfl) (by kernel_rfl) (by kernel_rfl) (fun _ _ _ h => h) (Or.inl ⟨by kernel_rfl, ?hy12r23n1q5⟩) (by assumption) ?hr12r23n1q5
        case hy12r23n1q5 => (intro w hSw; (try dsimp only at hSw); (obtain ⟨d1, d3, dp⟩ := HC.out w hSw); first | (go_simp; done) | (go_simp; with_reducible rfl))
        refine wpAnyH_take (i := 5) (v := ?v12r23n1q6) rfl (by kernel_rfl) (by kernel_rfl) (by kernel_rfl) (fun _ _ _ h => h) (Or.inl ⟨by kernel_rfl, ?hy12r23n1q6⟩) (by assumption) ?hr12r23n1q6
        case hy12r23n1q6 => (intro w hSw; (try dsimp only at hSw); (obtain ⟨d1, d3, dp⟩ := HC.out w hSw); first | (go_simp; done) | (go_simp; with_reducible rfl))
        refine wpAnyH_take (i := 6) (v := ?v12r23n1q7) rfl (by kernel_rfl) (by kernel_rfl) (by kernel_rfl) (fun _ _ _ h => h) (Or.inl ⟨by kernel_rfl, ?hy12r23n1q7⟩) (by assumption) ?hr12r23n1q7
        case hy12r23n1q7 => (intro w hSw; (try dsimp only at hSw); (obtain ⟨d1, d3, dp⟩ := HC.out w hSw); first | (go_simp; done) | (go_simp; with_reducible rfl))
        refine wpAnyH_take (i := 7) (v := ?v12r23n1q8) rfl (by kernel_rfl) (by kernel_rfl) (by kernel_rfl) (fun _ _ _ h => h) (Or.inl ⟨by kernel_rfl, ?hy12r23n1q8⟩) (by assumption) ?hr12r23n1q8
        case hy12r23n1q8 => (intro w hSw; (try dsimp only at hSw); (obtain ⟨d1, d3, dp⟩ := HC.out w hSw); first | (go_simp; done) | (go_simp; with_reducible rfl))
        refine wpAnyH_take (i := 8) (v := ?v12r23n1q9) rfl (by kernel_rfl) (by kernel_rfl) (by kernel_rfl) (fun _ _ _ h => h) (Or.inl ⟨by kernel_rfl, ?hy12r23n1q9⟩) (by assumption) ?hr12r23n1q9
        case hy12r23n1q9 => (intro w hSw; (try dsimp only at hSw); (obtain ⟨d1, d3, dp⟩ := HC.out w hSw); first | (go_simp; done) | (go_simp; with_reducible rfl))
        refine wpAnyH_ready (rs := [9]) (by kernel_rfl) (by simp) (AllReadyH.cons rfl (fun K hK => ?hc12r23n1q10) AllReadyH.nil)
        go_simp
        (go_at_call 51; refine (HCT.out _ hHeld).mono ?_; rintro e w110 ⟨rfl, rfl⟩; have hk := hHeld; (try dsimp only))
        refine hK.out _ _ ?hs12r23n1q10 (fun hHeld12r23n1q10 => ?ht12r23n1q10)
        case hs12r23n1q10 => ((try dsimp only); (exact hHeld))
        clear hHeld hK
        have hHeld := hHeld12r23n1q10
        clear hHeld12r23n1q10
        refine wpAnyH_take (i := 10) (v := ?v12r23n1q11) rfl (by kernel_rfl) (by kernel_rfl) (by kernel_rfl) (fun _ _ _ h => h) (Or.inl ⟨by kernel_rfl, ?hy12r23n1q11⟩) (by assumption) ?hr12r23n1q11
        case hy12r23n1q11 => (intro w hSw; (try dsimp only at hSw); (obtain ⟨d1, d3, dp⟩ := HC.out w hSw); first | (go_simp; done) | (go_simp; with_reducible rfl))
        refine wpAnyH_done (by kernel_rfl) ?_ _
        clear hHeld
        refine NoPanic.normal ?_
        apply_assumption
        refine wp_abs (fun X => OpS w.heap.size J g c (i * 5) n pn dv _ bv _ _ _ P j j.nums j.texts w X ∧ w.heap.size ≤ X.heap.size) ⟨HO.out.below hs20 hk, Nat.le_trans hs20 hk.size⟩ ?_
        rintro X ⟨hO, hsX⟩
        clear HC HCT HO hs20 hk hb20
        cases bm with
        | true =>
          have hfd : foundZ j pn rt = j := by
            unfold foundZ
            rw [if_pos (of_decide_eq_true HBM.out.symm)]
          rw [hfd] at HT
          clear hfd
          go_wp2
          refine ⟨LoopI.mk rfl ⟨rfl, rfl, rfl, i + m, f1, j, _, bv, _, by omega, by show Value.int _ _ = _; go_num, by omega, HT.out.symm, ⟨hO.mid.hb, hO.mid.box, hO.mid.rn, hO.mid.rb, hO.mid.rt, hO.mid.ne, hO.mid.len⟩, hO.row, by omega, by omega, hjb, hO.bel⟩, ?_⟩
          show n - _ < n - _
          simp [natI]; omega
        | false =>
          have hfd : foundZ j pn rt = { j with nums := j.nums ++ [pn], texts := j.texts ++ [rt] } := by
            unfold foundZ
            rw [if_neg (of_decide_eq_false HBM.out.symm)]
          have HFD := hidep hfd
          clear hfd
          obtain ⟨d1, d3, dp⟩ := hO.cells
          have f1' := hO.free 1
          have f3' := hO.free 3
          go_upto_region 24 with (fail)
          refine wp_join (OpT J g c i m n dv bv P { j with nums := j.nums ++ [pn], texts := j.texts ++ [rt] } w) ?put ?_
          case put =>
            intro K' hMK
            refine wp_region_noPanic (wp_region_heldD (S := (fun Y => Y.cell? ⟨J, 1, none⟩ = some (.slice na j.nums.length nc) ∧ Y.cell? ⟨J, 3, none⟩ = some (.slice ta j.texts.length tc) ∧ Y.cell? ⟨g, i * 5, none⟩ = some (.int .i64 pn))) [22, 25] (by kernel_rfl) ?hS12r24n2 (fun hHeld => ?hR12r24n2))
            case hS12r24n2 => ((try dsimp only); (exact ⟨d1, d3, dp⟩))
            refine wpAnyD_take (i := 0) (v := ?v12r24n2q1) rfl (by kernel_rfl) (by kernel_rfl) (by kernel_rfl) (fun _ _ _ h => h) (Or.inl ⟨by kernel_rfl, ?hy12r24n2q1⟩) (by assumption) (by kernel_rfl) ?hr12r24n2q1
            case hy12r24n2q1 => (intro w hSw; (try dsimp only at hSw); (obtain ⟨d1, d3, dp⟩ := hSw); first | (go_simp; done) | (go_simp; with_reducible rfl))
            refine wpAnyD_takeY (i := 1) (v := ?v12r24n2q2) rfl (by kernel_rfl) (by kernel_rfl) (by kernel_rfl) (fun _ _ _ h => h) (Or.inl ⟨by kernel_rfl, ?hy12r24n2q2⟩) (by assumption) (by kernel_rfl) ?hr12r24n2q2
            case hy12r24n2q2 => (intro w; first | (go_simp; done) | (go_simp; with_reducible rfl))
            refine wpAnyD_take (i := 2) (v := ?v12r24n2q3) rfl (by kernel_rfl) (by kernel_rfl) (by kernel_rfl) (fun _ _ _ h => h) (Or.inl ⟨by kernel_rfl, ?hy12r24n2q3⟩) (by assumption) (by kernel_rfl) ?hr12r24n2q3
            case hy12r24n2q3 => (intro w hSw; (try dsimp only at hSw); (obtain ⟨d1, d3, dp⟩ := hSw); first | (go_simp; done) | (go_simp; with_reducible rfl))
            refine wpAnyD_take (i := 3) (v := ?v12r24n2q4) rfl (by kernel_rfl) (by kernel_rfl) (by kernel_rfl) (fun _ _ _ h => h) (Or.inl ⟨by kernel_rfl, ?hy12r24n2q4⟩) (by assumption) (by kernel_rfl) ?hr12r24n2q4
            case hy12r24n2q4 => (intro w hSw; (try dsimp only at hSw); (obtain ⟨d1, d3, dp⟩ := hSw); first | (go_simp; done) | (go_simp; with_reducible rfl))
            refine wpAnyD_take (i := 4) (v := ?v12r24n2q5) rfl (by kernel_rfl) (by kernel_rfl) (by kernel_rfl) (fun _ _ _ h => h) (Or.inl ⟨by kernel_rfl, ?hy12r24n2q5⟩) (by assumption) (by kernel_rfl) ?hr12r24n2q5
            case hy12r24n2q5 => (intro w hSw; (try dsimp only at hSw); (obtain ⟨d1, d3, dp⟩ := hSw); first | (go_simp; done) | (go_simp; with_reducible rfl))
            refine wpAnyD_take (i := 5) (v := ?v12r24n2q6) rfl (by kernel_rfl) (by kernel_rfl) (by kernel_rfl) (fun _ _ _ h => h) (Or.inl ⟨by kernel_rfl, ?hy12r24n2q6⟩) (by assumption) (by kernel_rfl) ?hr12r24n2q6
            case hy12r24n2q6 => (intro w hSw; (try dsimp only at hSw); (obtain ⟨d1, d3, dp⟩ := hSw); first | (go_simp; done) | (go_simp; with_reducible rfl))
            refine wpAnyD_take (i := 6) (v := ?v12r24n2q7) rfl (by kernel_rfl) (by kernel_rfl) (by kernel_rfl) (fun _ _ _ h => h) (Or.inl ⟨by kernel_rfl, ?hy12r24n2q7⟩) (by assumption) (by kernel_rfl) ?hr12r24n2q7
            case hy12r24n2q7 => (intro w hSw; (try dsimp only at hSw); (obtain ⟨d1, d3, dp⟩ := hSw); first | (go_simp; done) | (go_simp; with_reducible rfl))
            refine wpAnyD_take (i := 7) (v := ?v12r24n2q8) rfl (by kernel_rfl) (by kernel_rfl) (by kernel_rfl) (fun _ _ _ h => h) (Or.inl ⟨by kernel_rfl, ?hy12r24n2q8⟩) (by assumption) (by kernel_rfl) ?hr12r24n2q8
            case hy12r24n2q8 => (intro w hSw; (try dsimp only at hSw); (obtain ⟨d1, d3, dp⟩ := hSw); first | (go_simp; done) | (go_simp; with_reducible rfl))
            refine wpAnyD_take (i := 8) (v := ?v12r24n2q9) rfl (by kernel_rfl) (by kernel_rfl) (by kernel_rfl) (fun _ _ _ h => h) (Or.inl ⟨by kernel_rfl, ?hy12r24n2q9⟩) (by assumption) (by kernel_rfl) ?hr12r24n2q9
            case hy12r24n2q9 => (intro w hSw; (try dsimp only at hSw); (obtain ⟨d1, d3, dp⟩ := hSw); first | (go_simp; done) | (go_simp; with_reducible rfl))
            refine wpAnyD_take (i := 9) (v := ?v12r24n2q10) rfl (by kernel_rfl) (by kernel_rfl) (by kernel_rfl) (fun _ _ _ h => h) (Or.inl ⟨by kernel_rfl, ?hy12r24n2q10⟩) (by assumption) (by kernel_rfl) ?hr12r24n2q10
            case hy12r24n2q10 => (intro w hSw; (try dsimp only at hSw); (obtain ⟨d1, d3, dp⟩ := hSw); first | (go_simp; done) | (go_simp; with_reducible rfl))
            refine wpAnyD_take (i := 10) (v := ?v12r24n2q11) rfl (by kernel_rfl) (by kernel_rfl) (by kernel_rfl) (fun _ _ _ h => h) (Or.inl ⟨by kernel_rfl, ?hy12r24n2q11⟩) (by assumption) (by kernel_rfl) ?hr12r24n2q11
            case hy12r24n2q11 => (intro w hSw; (try dsimp only at hSw); (obtain ⟨d1, d3, dp⟩ := hSw); first | (go_simp; done) | (go_simp; with_reducible rfl))
            refine wpAnyD_take (i := 13) (v := ?v12r24n2q12) rfl (by kernel_rfl) (by kernel_rfl) (by kernel_rfl) (fun _ _ _ h => h) (Or.inl ⟨by kernel_rfl, ?hy12r24n2q12⟩) (by assumption) (by kernel_rfl) ?hr12r24n2q12
            case hy12r24n2q12 => (intro w hSw; (try dsimp only at hSw); (obtain ⟨d1, d3, dp⟩ := hSw); first | (go_simp; done) | (go_simp; with_reducible rfl))
            refine wpAnyD_take (i := 14) (v := ?v12r24n2q13) rfl (by kernel_rfl) (by kernel_rfl) (by kernel_rfl) (fun _ _ _ h => h) (Or.inl ⟨by kernel_rfl, ?hy12r24n2q13⟩) (by assumption) (by kernel_rfl) ?hr12r24n2q13
            case hy12r24n2q13 => (intro w hSw; (try dsimp only at hSw); (obtain ⟨d1, d3, dp⟩ := hSw); first | (go_simp; done) | (go_simp; with_reducible rfl))
            refine wpAnyD_take (i := 15) (v := ?v12r24n2q14) rfl (by kernel_rfl) (by kernel_rfl) (by kernel_rfl) (fun _ _ _ h => h) (Or.inl ⟨by kernel_rfl, ?hy12r24n2q14⟩) (by assumption) (by kernel_rfl) ?hr12r24n2q14
            case hy12r24n2q14 => (intro w hSw; (try dsimp only at hSw); (obtain ⟨d1, d3, dp⟩ := hSw); first | (go_simp; done) | (go_simp; with_reducible rfl))
            refine wpAnyD_take (i := 16) (v := ?v12r24n2q15) rfl (by kernel_rfl) (by kernel_rfl) (by kernel_rfl) (fun _ _ _ h => h) (Or.inl ⟨by kernel_rfl, ?hy12r24n2q15⟩) (by assumption) (by kernel_rfl) ?hr12r24n2q15
            case hy12r24n2q15 => (intro w hSw; (try dsimp only at hSw); (obtain ⟨d1, d3, dp⟩ := hSw); first | (go_simp; done) | (go_simp; with_reducible rfl))
            refine wpAnyD_take (i := 17) (v := ?v12r24n2q16) rfl (by kernel_rfl) (by kernel_rfl) (by kernel_rfl) (fun _ _ _ h => h) (Or.inl ⟨by kernel_rfl, ?hy12r24n2q16⟩) (by assumption) (by kernel_rfl) ?hr12r24n2q16
            case hy12r24n2q16 => (intro w hSw; (try dsimp only at hSw); (obtain ⟨d1, d3, dp⟩ := hSw); first | (go_simp; done) | (go_simp; with_reducible rfl))
            refine wpAnyD_ready (rs := [11, 18]) (by kernel_rfl) (by simp) (AllReadyD.cons rfl (by kernel_rfl) (fun K hK => ?hc12r24n2q17) (AllReadyD.cons rfl (by kernel_rfl) (fun K hK => ?hc12r24n2q18) AllReadyD.nil))
            case' hc12r24n2q17 =>
              go_simp
              ((first | refine intro_alloc (fun X1 hBX hL123 => ?_) | refine intro_alloc_drew (fun X1 hBX hL123 => ?_)); (first | (have hO2 := hO.below hsX hBX) | (have hO2 := (hO.below hsX (Below.refl _ _).drew).below hsX hBX)); (first | (have hL130 := below_push hBX hL130) | skip); have hsX := hO2.bel.size; have hO := hO2; clear hO2 hBX; (try dsimp only))
              refine hK.out _ _ ?hs12r24n2q17 (fun hHeld12r24n2q17 => ?ht12r24n2q17)
              case hs12r24n2q17 => ((try dsimp only); (exact hO.cells))
              clear hHeld hK
              have hHeld := hHeld12r24n2q17
              clear hHeld12r24n2q17
              refine wpAnyD_ready (rs := [12, 18]) (by kernel_rfl) (by simp) (AllReadyD.cons rfl (by kernel_rfl) (fun K hK => ?hc12r24n2q19) (AllReadyD.cons rfl (by kernel_rfl) (fun K hK => ?hc12r24n2q20) AllReadyD.nil))
              case' hc12r24n2q19 =>
                (refine step_append_rd _ rfl (.tmp 117) (.tmp 123) rfl slInts w.heap.size _ _ _ rfl hO.mid.rn _ _ _ _ rfl (rd_lit1 hL123) (by intro u hu; simp at hu; subst hu; rfl) (by unfold maxLen; omega) (by omega) hsX ?_; intro v124 w124 ho124 hg124 hd124 hnl124; obtain ⟨a124, c124, rfl, _, _⟩ := (Rd.of_own ho124).form; (first | (have hL130 := grown_other hO.mid.rn hg124 hL130 (by decide)) | skip); have hO2 := hO.push_n hsX ho124 hg124 hd124 (by omega); have hsX := hO2.bel.size; have hO := hO2; have f1' := hO.free 1; have f3' := hO.free 3; have d1 := hO.cells.1; have d3 := hO.cells.2.1; clear hO2 ho124 hg124 hd124 hnl124; (try dsimp only))
                refine hK.out _ _ ?hs12r24n2q19 (fun hHeld12r24n2q19 => ?ht12r24n2q19)
                case hs12r24n2q19 => ((try dsimp only); (exact hO.cells))
                clear hHeld hK
                have hHeld := hHeld12r24n2q19
                clear hHeld12r24n2q19
                refine wpAnyD_ready (rs := [18]) (by kernel_rfl) (by simp) (AllReadyD.cons rfl (by kernel_rfl) (fun K hK => ?hc12r24n2q21) AllReadyD.nil)
                go_simp
                ((first | refine intro_alloc (fun X1 hBX hL130 => ?_) | refine intro_alloc_drew (fun X1 hBX hL130 => ?_)); (first | (have hO2 := hO.below hsX hBX) | (have hO2 := (hO.below hsX (Below.refl _ _).drew).below hsX hBX)); (first | (have hL123 := below_push hBX hL123) | skip); have hsX := hO2.bel.size; have hO := hO2; clear hO2 hBX; (try dsimp only))
                refine hK.out _ _ ?hs12r24n2q21 (fun hHeld12r24n2q21 => ?ht12r24n2q21)
                case hs12r24n2q21 => ((try dsimp only); (exact hO.cells))
                clear hHeld hK
                have hHeld := hHeld12r24n2q21
                clear hHeld12r24n2q21
                refine wpAnyD_ready (rs := [19]) (by kernel_rfl) (by simp) (AllReadyD.cons rfl (by kernel_rfl) (fun K hK => ?hc12r24n2q22) AllReadyD.nil)
                (refine step_append_rd _ rfl (.tmp 128) (.tmp 130) rfl slStrs w.heap.size _ _ _ rfl hO.mid.rt _ _ _ _ rfl (rd_lit1 hL130) (by intro u hu; simp at hu; subst hu; rfl) (by unfold maxLen; omega) (by omega) hsX ?_; intro v131 w131 ho131 hg131 hd131 hnl131; obtain ⟨a131, c131, rfl, _, _⟩ := (Rd.of_own ho131).form; (first | (have hL123 := grown_other hO.mid.rt hg131 hL123 (by decide)) | skip); have hO2 := hO.push_t hsX ho131 hg131 (by omega); have hsX := hO2.bel.size; have hO := hO2; have f1' := hO.free 1; have f3' := hO.free 3; have d1 := hO.cells.1; have d3 := hO.cells.2.1; clear hO2 ho131 hg131 hd131 hnl131; (try dsimp only))
                refine hK.out _ _ ?hs12r24n2q22 (fun hHeld12r24n2q22 => ?ht12r24n2q22)
                case hs12r24n2q22 => ((try dsimp only); (exact hO.cells))
                clear hHeld hK
                have hHeld := hHeld12r24n2q22
                clear hHeld12r24n2q22
                refine wpAnyD_take (i := 20) (v := ?v12r24n2q23) rfl (by kernel_rfl) (by kernel_rfl) (by kernel_rfl) (fun _ _ _ h => h) (Or.inl ⟨by kernel_rfl, ?hy12r24n2q23⟩) (by assumption) (by kernel_rfl) ?hr12r24n2q23
                case hy12r24n2q23 => (intro w hSw; (try dsimp only at hSw); (obtain ⟨d1, d3, dp⟩ := hSw); first | (go_simp; done) | (go_simp; with_reducible rfl))
                refine wpAnyD_take (i := 21) (v := ?v12r24n2q24) rfl (by kernel_rfl) (by kernel_rfl) (by kernel_rfl) (fun _ _ _ h => h) (Or.inl ⟨by kernel_rfl, ?hy12r24n2q24⟩) (by assumption) (by kernel_rfl) ?hr12r24n2q24
                case hy12r24n2q24 => (intro w hSw; (try dsimp only at hSw); (obtain ⟨d1, d3, dp⟩ := hSw); first | (go_simp; done) | (go_simp; with_reducible rfl))
                refine wpAnyD_ready (rs := [22]) (by kernel_rfl) (by simp) (AllReadyD.last rfl (by kernel_rfl) (fun K hK => ?hc12r24n2q25) AllReadyD.nil)
                go_simp
                refine hK.out _ _ ?_
                clear hHeld hK
                have hHeld := True.intro
                refine wpAnyH_take (i := 23) (v := ?v12r24n2q26) rfl (by kernel_rfl) (by kernel_rfl) (by kernel_rfl) (fun _ _ _ h => h) (Or.inl ⟨by kernel_rfl, ?hy12r24n2q26⟩) (by assumption) ?hr12r24n2q26
                case hy12r24n2q26 => (intro w hSw; (try dsimp only at hSw); skip; first | (go_simp; done) | (go_simp; with_reducible rfl))
                refine wpAnyH_take (i := 24) (v := ?v12r24n2q27) rfl (by kernel_rfl) (by kernel_rfl) (by kernel_rfl) (fun _ _ _ h => h) (Or.inl ⟨by kernel_rfl, ?hy12r24n2q27⟩) (by assumption) ?hr12r24n2q27
                case hy12r24n2q27 => (intro w hSw; (try dsimp only at hSw); skip; first | (go_simp; done) | (go_simp; with_reducible rfl))
                refine wpAnyH_ready (rs := [25]) (by kernel_rfl) (by simp) (AllReadyH.cons rfl (fun K hK => ?hc12r24n2q28) AllReadyH.nil)
                go_simp
                refine hK.out _ _ ?hs12r24n2q28 (fun hHeld12r24n2q28 => ?ht12r24n2q28)
                case hs12r24n2q28 => ((try dsimp only); try exact True.intro)
                clear hHeld hK
                have hHeld := hHeld12r24n2q28
                clear hHeld12r24n2q28
                refine wpAnyH_done (by kernel_rfl) ?_ _
                clear hHeld
                refine NoPanic.normal ?_
              case' hc12r24n2q20 =>
                go_simp
                ((first | refine intro_alloc (fun X1 hBX hL130 => ?_) | refine intro_alloc_drew (fun X1 hBX hL130 => ?_)); (first | (have hO2 := hO.below hsX hBX) | (have hO2 := (hO.below hsX (Below.refl _ _).drew).below hsX hBX)); (first | (have hL123 := below_push hBX hL123) | skip); have hsX := hO2.bel.size; have hO := hO2; clear hO2 hBX; (try dsimp only))
                refine hK.out _ _ ?hs12r24n2q20 (fun hHeld12r24n2q20 => ?ht12r24n2q20)
                case hs12r24n2q20 => ((try dsimp only); (exact hO.cells))
                clear hHeld hK
                have hHeld := hHeld12r24n2q20
                clear hHeld12r24n2q20
                refine wpAnyD_ready (rs := [12]) (by kernel_rfl) (by simp) (AllReadyD.cons rfl (by kernel_rfl) (fun K hK => ?hc12r24n2q29) AllReadyD.nil)
                (refine step_append_rd _ rfl (.tmp 117) (.tmp 123) rfl slInts w.heap.size _ _ _ rfl hO.mid.rn _ _ _ _ rfl (rd_lit1 hL123) (by intro u hu; simp at hu; subst hu; rfl) (by unfold maxLen; omega) (by omega) hsX ?_; intro v124 w124 ho124 hg124 hd124 hnl124; obtain ⟨a124, c124, rfl, _, _⟩ := (Rd.of_own ho124).form; (first | (have hL130 := grown_other hO.mid.rn hg124 hL130 (by decide)) | skip); have hO2 := hO.push_n hsX ho124 hg124 hd124 (by omega); have hsX := hO2.bel.size; have hO := hO2; have f1' := hO.free 1; have f3' := hO.free 3; have d1 := hO.cells.1; have d3 := hO.cells.2.1; clear hO2 ho124 hg124 hd124 hnl124; (try dsimp only))
                refine hK.out _ _ ?hs12r24n2q29 (fun hHeld12r24n2q29 => ?ht12r24n2q29)
                case hs12r24n2q29 => ((try dsimp only); (exact hO.cells))
                clear hHeld hK
                have hHeld := hHeld12r24n2q29
                clear hHeld12r24n2q29
                refine wpAnyD_ready (rs := [19]) (by kernel_rfl) (by simp) (AllReadyD.cons rfl (by kernel_rfl) (fun K hK => ?hc12r24n2q30) AllReadyD.nil)
                (refine step_append_rd _ rfl (.tmp 128) (.tmp 130) rfl slStrs w.heap.size _ _ _ rfl hO.mid.rt _ _ _ _ rfl (rd_lit1 hL130) (by intro u hu; simp at hu; subst hu; rfl) (by unfold maxLen; omega) (by omega) hsX ?_; intro v131 w131 ho131 hg131 hd131 hnl131; obtain ⟨a131, c131, rfl, _, _⟩ := (Rd.of_own ho131).form; (first | (have hL123 := grown_other hO.mid.rt hg131 hL123 (by decide)) | skip); have hO2 := hO.push_t hsX ho131 hg131 (by omega); have hsX := hO2.bel.size; have hO := hO2; have f1' := hO.free 1; have f3' := hO.free 3; have d1 := hO.cells.1; have d3 := hO.cells.2.1; clear hO2 ho131 hg131 hd131 hnl131; (try dsimp only))
                refine hK.out _ _ ?hs12r24n2q30 (fun hHeld12r24n2q30 => ?ht12r24n2q30)
                case hs12r24n2q30 => ((try dsimp only); (exact hO.cells))
                clear hHeld hK
                have hHeld := hHeld12r24n2q30
                clear hHeld12r24n2q30
                refine wpAnyD_take (i := 20) (v := ?v12r24n2q31) rfl (by kernel_rfl) (by kernel_rfl) (by kernel_rfl) (fun _ _ _ h => h) (Or.inl ⟨by kernel_rfl, ?hy12r24n2q31⟩) (by assumption) (by kernel_rfl) ?hr12r24n2q31
                case hy12r24n2q31 => (intro w hSw; (try dsimp only at hSw); (obtain ⟨d1, d3, dp⟩ := hSw); first | (go_simp; done) | (go_simp; with_reducible rfl))
                refine wpAnyD_take (i := 21) (v := ?v12r24n2q32) rfl (by kernel_rfl) (by kernel_rfl) (by kernel_rfl) (fun _ _ _ h => h) (Or.inl ⟨by kernel_rfl, ?hy12r24n2q32⟩) (by assumption) (by kernel_rfl) ?hr12r24n2q32
                case hy12r24n2q32 => (intro w hSw; (try dsimp only at hSw); (obtain ⟨d1, d3, dp⟩ := hSw); first | (go_simp; done) | (go_simp; with_reducible rfl))
                refine wpAnyD_ready (rs := [22]) (by kernel_rfl) (by simp) (AllReadyD.last rfl (by kernel_rfl) (fun K hK => ?hc12r24n2q33) AllReadyD.nil)
                go_simp
                refine hK.out _ _ ?_
                clear hHeld hK
                have hHeld := True.intro
                refine wpAnyH_take (i := 23) (v := ?v12r24n2q34) rfl (by kernel_rfl) (by kernel_rfl) (by kernel_rfl) (fun _ _ _ h => h) (Or.inl ⟨by kernel_rfl, ?hy12r24n2q34⟩) (by assumption) ?hr12r24n2q34
                case hy12r24n2q34 => (intro w hSw; (try dsimp only at hSw); skip; first | (go_simp; done) | (go_simp; with_reducible rfl))
                refine wpAnyH_take (i := 24) (v := ?v12r24n2q35) rfl (by kernel_rfl) (by kernel_rfl) (by kernel_rfl) (fun _ _ _ h => h) (Or.inl ⟨by kernel_rfl, ?hy12r24n2q35⟩) (by assumption) ?hr12r24n2q35
                case hy12r24n2q35 => (intro w hSw; (try dsimp only at hSw); skip; first | (go_simp; done) | (go_simp; with_reducible rfl))
                refine wpAnyH_ready (rs := [25]) (by kernel_rfl) (by simp) (AllReadyH.cons rfl (fun K hK => ?hc12r24n2q36) AllReadyH.nil)
                go_simp
                refine hK.out _ _ ?hs12r24n2q36 (fun hHeld12r24n2q36 => ?ht12r24n2q36)
                case hs12r24n2q36 => ((try dsimp only); try exact True.intro)
                clear hHeld hK
                have hHeld := hHeld12r24n2q36
                clear hHeld12r24n2q36
                refine wpAnyH_done (by kernel_rfl) ?_ _
                clear hHeld
                refine NoPanic.normal ?_
            case' hc12r24n2q18 =>
              go_simp
              ((first | refine intro_alloc (fun X1 hBX hL130 => ?_) | refine intro_alloc_drew (fun X1 hBX hL130 => ?_)); (first | (have hO2 := hO.below hsX hBX) | (have hO2 := (hO.below hsX (Below.refl _ _).drew).below hsX hBX)); (first | (have hL123 := below_push hBX hL123) | skip); have hsX := hO2.bel.size; have hO := hO2; clear hO2 hBX; (try dsimp only))
              refine hK.out _ _ ?hs12r24n2q18 (fun hHeld12r24n2q18 => ?ht12r24n2q18)
              case hs12r24n2q18 => ((try dsimp only); (exact hO.cells))
              clear hHeld hK
              have hHeld := hHeld12r24n2q18
              clear hHeld12r24n2q18
              refine wpAnyD_ready (rs := [11]) (by kernel_rfl) (by simp) (AllReadyD.cons rfl (by kernel_rfl) (fun K hK => ?hc12r24n2q37) AllReadyD.nil)
              go_simp
              ((first | refine intro_alloc (fun X1 hBX hL123 => ?_) | refine intro_alloc_drew (fun X1 hBX hL123 => ?_)); (first | (have hO2 := hO.below hsX hBX) | (have hO2 := (hO.below hsX (Below.refl _ _).drew).below hsX hBX)); (first | (have hL130 := below_push hBX hL130) | skip); have hsX := hO2.bel.size; have hO := hO2; clear hO2 hBX; (try dsimp only))
              refine hK.out _ _ ?hs12r24n2q37 (fun hHeld12r24n2q37 => ?ht12r24n2q37)
              case hs12r24n2q37 => ((try dsimp only); (exact hO.cells))
              clear hHeld hK
              have hHeld := hHeld12r24n2q37
              clear hHeld12r24n2q37
              refine wpAnyD_ready (rs := [12]) (by kernel_rfl) (by simp) (AllReadyD.cons rfl (by kernel_rfl) (fun K hK => ?hc12r24n2q38) AllReadyD.nil)
              (refine step_append_rd _ rfl (.tmp 117) (.tmp 123) rfl slInts w.heap.size _ _ _ rfl hO.mid.rn _ _ _ _ rfl (rd_lit1 hL123) (by intro u hu; simp at hu; subst hu; rfl) (by unfold maxLen; omega) (by omega) hsX ?_; intro v124 w124 ho124 hg124 hd124 hnl124; obtain ⟨a124, c124, rfl, _, _⟩ := (Rd.of_own ho124).form; (first | (have hL130 := grown_other hO.mid.rn hg124 hL130 (by decide)) | skip); have hO2 := hO.push_n hsX ho124 hg124 hd124 (by omega); have hsX := hO2.bel.size; have hO := hO2; have f1' := hO.free 1; have f3' := hO.free 3; have d1 := hO.cells.1; have d3 := hO.cells.2.1; clear hO2 ho124 hg124 hd124 hnl124; (try dsimp only))
              refine hK.out _ _ ?hs12r24n2q38 (fun hHeld12r24n2q38 => ?ht12r24n2q38)
              case hs12r24n2q38 => ((try dsimp only); (exact hO.cells))
              clear hHeld hK
              have hHeld := hHeld12r24n2q38
              clear hHeld12r24n2q38
              refine wpAnyD_ready (rs := [19]) (by kernel_rfl) (by simp) (AllReadyD.cons rfl (by kernel_rfl) (fun K hK => ?hc12r24n2q39) AllReadyD.nil)
              (refine step_append_rd _ rfl (.tmp 128) (.tmp 130) rfl slStrs w.heap.size _ _ _ rfl hO.mid.rt _ _ _ _ rfl (rd_lit1 hL130) (by intro u hu; simp at hu; subst hu; rfl) (by unfold maxLen; omega) (by omega) hsX ?_; intro v131 w131 ho131 hg131 hd131 hnl131; obtain ⟨a131, c131, rfl, _, _⟩ := (Rd.of_own ho131).form; (first | (have hL123 := grown_other hO.mid.rt hg131 hL123 (by decide)) | skip); have hO2 := hO.push_t hsX ho131 hg131 (by omega); have hsX := hO2.bel.size; have hO := hO2; have f1' := hO.free 1; have f3' := hO.free 3; have d1 := hO.cells.1; have d3 := hO.cells.2.1; clear hO2 ho131 hg131 hd131 hnl131; (try dsimp only))
              refine hK.out _ _ ?hs12r24n2q39 (fun hHeld12r24n2q39 => ?ht12r24n2q39)
              case hs12r24n2q39 => ((try dsimp only); (exact hO.cells))
              clear hHeld hK
              have hHeld := hHeld12r24n2q39
              clear hHeld12r24n2q39
              refine wpAnyD_take (i := 20) (v := ?v12r24n2q40) rfl (by kernel_rfl) (by kernel_rfl) (by kernel_rfl) (fun _ _ _ h => h) (Or.inl ⟨by kernel_rfl, ?hy12r24n2q40⟩) (by assumption) (by kernel_rfl) ?hr12r24n2q40
              case hy12r24n2q40 => (intro w hSw; (try dsimp only at hSw); (obtain ⟨d1, d3, dp⟩ := hSw); first | (go_simp; done) | (go_simp; with_reducible rfl))
              refine wpAnyD_take (i := 21) (v := ?v12r24n2q41) rfl (by kernel_rfl) (by kernel_rfl) (by kernel_rfl) (fun _ _ _ h => h) (Or.inl ⟨by kernel_rfl, ?hy12r24n2q41⟩) (by assumption) (by kernel_rfl) ?hr12r24n2q41
              case hy12r24n2q41 => (intro w hSw; (try dsimp only at hSw); (obtain ⟨d1, d3, dp⟩ := hSw); first | (go_simp; done) | (go_simp; with_reducible rfl))
              refine wpAnyD_ready (rs := [22]) (by kernel_rfl) (by simp) (AllReadyD.last rfl (by kernel_rfl) (fun K hK => ?hc12r24n2q42) AllReadyD.nil)
              go_simp
              refine hK.out _ _ ?_
              clear hHeld hK
              have hHeld := True.intro
              refine wpAnyH_take (i := 23) (v := ?v12r24n2q43) rfl (by kernel_rfl) (by kernel_rfl) (by kernel_rfl) (fun _ _ _ h => h) (Or.inl ⟨by kernel_rfl, ?hy12r24n2q43⟩) (by assumption) ?hr12r24n2q43
              case hy12r24n2q43 => (intro w hSw; (try dsimp only at hSw); skip; first | (go_simp; done) | (go_simp; with_reducible rfl))
              refine wpAnyH_take (i := 24) (v := ?v12r24n2q44) rfl (by kernel_rfl) (by kernel_rfl) (by kernel_rfl) (fun _ _ _ h => h) (Or.inl ⟨by kernel_rfl, ?hy12r24n2q44⟩) (by assumption) ?hr12r24n2q44
              case hy12r24n2q44 => (intro w hSw; (try dsimp only at hSw); skip; first | (go_simp; done) | (go_simp; with_reducible rfl))
              refine wpAnyH_ready (rs := [25]) (by kernel_rfl) (by simp) (AllReadyH.cons rfl (fun K hK => ?hc12r24n2q45) AllReadyH.nil)
              go_simp
              refine hK.out _ _ ?hs12r24n2q45 (fun hHeld12r24n2q45 => ?ht12r24n2q45)
              case hs12r24n2q45 => ((try dsimp only); try exact True.intro)
              clear hHeld hK
              have hHeld := hHeld12r24n2q45
              clear hHeld12r24n2q45
              refine wpAnyH_done (by kernel_rfl) ?_ _
              clear hHeld
              refine NoPanic.normal ?_
            all_goals
              (try dsimp only [Exit.inBlock, Exit.then])
              first
              | exact hMK _ _ ⟨rfl, rfl, by kernel_rfl, by kernel_rfl, by kernel_rfl, by kernel_rfl, _, _, hO.mid.done, own_boxt (own_boxt hO.row hO.mid.box (by decide) 1 _) (heap_set hO.mid.box 1 _) (by decide) 3 _, below_set (below_set hO.bel _ _ hO.mid.hb) _ _ hO.mid.hb⟩
              | exact hMK _ _ ⟨rfl, rfl, by kernel_rfl, by kernel_rfl, by kernel_rfl, by kernel_rfl, _, _, hO.mid.done', own_boxt (own_boxt hO.row hO.mid.box (by decide) 3 _) (heap_set hO.mid.box 3 _) (by decide) 1 _, below_set (below_set hO.bel _ _ hO.mid.hb) _ _ hO.mid.hb⟩
          rintro ⟨tF, dF⟩ W5 ⟨h140, hds, e4, e5, e11, e13, nv5, tv5, hj5, hown5, hbw5⟩
          simp only at h140 hds e4 e5 e11 e13
          subst hds
          (try dsimp only [Exit.then])
          rw [frame140 tF [] h140, e4, e5, e11, e13]
          clear h140 e4 e5 e11 e13 hO d1 d3 dp f1' f3'
          rw [HFD.out] at HT
          go_wp2
          refine ⟨LoopI.mk rfl ⟨rfl, rfl, rfl, i + m, f1, { j with nums := j.nums ++ [pn], texts := j.texts ++ [rt] }, nv5, bv, tv5, by omega, by show Value.int _ _ = _; go_num, by omega, HT.out.symm, hj5, hown5, ?_, ?_, hjb, hbw5⟩, ?_⟩
          · show (j.nums ++ [pn]).length ≤ _
            rw [List.length_append]
            show j.nums.length + 1 ≤ _
            omega
          · show (j.texts ++ [rt]).length ≤ _
            rw [List.length_append]
            show j.texts.length + 1 ≤ _
            omega
          · show n - _ < n - _
            simp [natI]; omega
    · have hin2 : i = n := by omega
      have hii2 : ¬ (i : Int) < (n : Int) := by omega
      have hjZ : j = Z := by
        rw [← hjz, hin2, ← HPL.out, List.drop_length]
        cases f with
        | zero => omega
        | succ f => rfl
      rw [hjZ, HZ.out] at hj
      clear hjz hjZ hin2
      go_wp2
      refine bodyPost_ret (P := Tryz.prog) (fn := Tryz.f12) (results_tmp2 rfl _ _ _) (by kernel_rfl) ?_
      exact ⟨_, by kernel_rfl, ⟨J, nv, bv, tv, rfl, by rw [← HDV.out]; exact hj⟩, hbw⟩
end Go.Proofs.YtipbkdlekanlmaaGreatDoor
