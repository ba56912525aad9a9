/- Journal, plain: the journal of a disk, Append, and what a journal answers (packL, packE are JnV's). -/
import Derived.Test.YtipbkdlekanlmaaGreatDoorZr17
import Derived.Test.YtipbkdlekanlmaaGreatDoorZr14
import Derived.Test.YtipbkdlekanlmaaGreatDoorZr02
import Derived.Shelf.SlIterI.Nil
import Derived.Shelf.SortM.Plain
import Derived.Shelf.SortM.SortNone
import Derived.Ground.GgzProg
import Derived.Ground.SlgmProg
import Derived.Test.YtipbkdlekanlmaaGreatDoorRows
import Derived.Test.YtipbkdlekanlmaaGreatDoorZr03
namespace Go.Jn
open Go Go.Lab Go.Disk Go.Proofs.YtipbkdlekanlmaaGreatDoor
/-- A journal: its records, the sectors that could not be read, the next number, the place after the last sector in use. -/
structure JZ where
  nums : List Int
  texts : List ByteArray
  bad : List Int
  next : Int
  stop : Int
  closed : Bool
/-- Are all bytes of a sector zero? -/
def blankZ (s : ByteArray) : Bool := decide (s = zeros)
/-- One more sector, k, with text s, is read. -/
def scanZ (j : JZ) (k : Nat) (s : ByteArray) : JZ :=
  { j with
    stop := if blankZ s = true then j.stop else (k : Int) + 1
    bad := if (unpZ s).ok = false ∧ blankZ s = false then j.bad ++ [(k : Int)] else j.bad
    next := max j.next ((unpZ s).num + 1) }
def scanAll : JZ → Nat → List ByteArray → JZ
  | j, _, [] => j
  | j, k, s :: r => scanAll (scanZ j k s) (k + 1) r
/-- A record is found. -/
def foundZ (j : JZ) (num : Int) (t : ByteArray) : JZ := if num ∈ j.nums then j else { j with nums := j.nums ++ [num], texts := j.texts ++ [t] }
/-- The records, from a place on; f bounds the number of steps. -/
def recsZ : Nat → JZ → List PartZ → JZ
  | 0, j, _ => j
  | _ + 1, j, [] => j
  | f + 1, j, p :: r => if (recordZ (p :: r)).2.2 = true then recsZ f (foundZ j p.num (recordZ (p :: r)).1) ((p :: r).drop (recordZ (p :: r)).2.1.toNat) else recsZ f j r
def jz0 : JZ := ⟨[], [], [], 1, 0, false⟩
/-- The journal of sectors with some texts. -/
def journalZ (l : List ByteArray) : JZ := recsZ (l.length + 1) (scanAll jz0 0 l) (l.map unpZ)
/-- What a disk's sectors read as. -/
def readsZ (D : Dk) : List ByteArray := (List.range D.s.length).map fun k : Nat => (readZ D (k : Int)).1
/-- Open: the error, else the journal. -/
def openE (D : Dk) : Int := if D.off = true then 25 else 0
def openZ (D : Dk) : JZ := journalZ (readsZ D)
def roomZ (j : JZ) (D : Dk) : Int := (D.s.length : Int) - j.stop
/-- The numbers of the records that are lost. -/
def damagedZ (j : JZ) : List Int := ((List.range j.next.toNat).map (fun k : Nat => (k : Int))).filter fun n => decide (1 ≤ n) && decide (n ∉ j.nums)
/-- Sectors written one after the other: the error, the disk. -/
def writesZ : Dk → Int → List ByteArray → Int × Dk
  | D, _, [] => (0, D)
  | D, at', s :: r => if writeE D at' s = 0 then writesZ (writeD D at' s) (at' + 1) r else (writeE D at' s, writeD D at' s)
/-- Are they read as they were written? (error, same) -/
def checksZ : Dk → Int → List ByteArray → Bool → Int × Bool
  | _, _, [], b => (0, b)
  | D, at', s :: r, b => if (readZ D at').2 = 0 then checksZ D (at' + 1) r (b && decide (s = (readZ D at').1)) else ((readZ D at').2, false)
/-- write: (error, same, disk). -/
def putZ (D : Dk) (at' : Int) (l : List ByteArray) : Int × Bool × Dk :=
  if (writesZ D at' l).1 ≠ 0 then ((writesZ D at' l).1, false, (writesZ D at' l).2)
  else if flushE (writesZ D at' l).2 ≠ 0 then (flushE (writesZ D at' l).2, false, flushD (writesZ D at' l).2)
  else ((checksZ (flushD (writesZ D at' l).2) at' l true).1, (checksZ (flushD (writesZ D at' l).2) at' l true).2, flushD (writesZ D at' l).2)
/-- Append: (number, error, journal, disk). -/
def appendZ (j : JZ) (D : Dk) (t : ByteArray) : Int × Int × JZ × Dk :=
  if j.closed = true then (0, 25, j, D)
  else if 8000 < t.size ∨ 4096 < j.next then (0, 4, j, D)
  else if roomZ j D < cntZ t.size then (0, 24, j, D)
  else
    let l := packL j.next t
    let j2 := { j with next := j.next + 1, stop := j.stop + l.length }
    let r := putZ D j.stop l
    if r.1 ≠ 0 then (0, r.1, { j2 with closed := true }, r.2.2)
    else if r.2.1 = false then (0, 26, j2, r.2.2)
    else (j.next, 0, { j2 with nums := j.nums ++ [j.next], texts := j.texts ++ [t] }, r.2.2)
end Go.Jn
/- Journal: a journal in memory; Next, Numbers, Texts, Bad, Room. -/
namespace Go.Proofs.YtipbkdlekanlmaaGreatDoor
open Go.RowKit Go.Lab Go.Disk Go.Jn
attribute [local go_sem] Oper.semAt_some
set_option maxRecDepth 100000
/-- A journal lies in block b, on what lay not ahead of lo. -/
structure JIn (w : World) (lo b : Nat) (dv nv bv tv : Value) (j : JZ) : Prop where
  hb : lo ≤ b
  box : w.heap[b]? = some (.cells #[dv, nv, bv, tv, .int .i64 j.next, .int .i64 j.stop, .bool j.closed] 89)
  rn : w.ownsRow lo 3 1 nv j.nums.length (intsC j.nums)
  rb : w.ownsRow lo 3 1 bv j.bad.length (intsC j.bad)
  rt : w.ownsRow lo 9 1 tv j.texts.length (strL j.texts)
  ne : nv.ownBlock = none ∨ nv.ownBlock ≠ bv.ownBlock
  len : j.nums.length ≤ 10000 ∧ j.bad.length ≤ 10000 ∧ j.texts.length ≤ 10000
def JAt (w : World) (lo : Nat) (p dv : Value) (j : JZ) : Prop := ∃ b nv bv tv, p = .pointer (some ⟨b, 0, none⟩) ∧ JIn w lo b dv nv bv tv j
theorem JIn.below {w w' : World} {lo b : Nat} {dv nv bv tv : Value} {j : JZ} (h : JIn w lo b dv nv bv tv j) (hb : Below w.heap.size w w') : JIn w' lo b dv nv bv tv j :=
  ⟨h.hb, below_push hb h.box, own_below h.rn hb, own_below h.rb hb, own_below h.rt hb, h.ne, h.len⟩
theorem JAt.below {w w' : World} {lo : Nat} {p dv : Value} {j : JZ} (h : JAt w lo p dv j) (hb : Below w.heap.size w w') : JAt w' lo p dv j := by
  obtain ⟨b, nv, bv, tv, hp, hj⟩ := h
  exact ⟨b, nv, bv, tv, hp, hj.below hb⟩
theorem JIn.cells {w : World} {lo b : Nat} {dv nv bv tv : Value} {j : JZ} (h : JIn w lo b dv nv bv tv j) : w.cell? ⟨b, 0, none⟩ = some dv ∧ w.cell? ⟨b, 1, none⟩ = some nv ∧ w.cell? ⟨b, 2, none⟩ = some bv ∧ w.cell? ⟨b, 3, none⟩ = some tv ∧ w.cell? ⟨b, 4, none⟩ = some (.int .i64 j.next) ∧ w.cell? ⟨b, 5, none⟩ = some (.int .i64 j.stop) ∧ w.cell? ⟨b, 6, none⟩ = some (.bool j.closed) :=
  ⟨by simp [World.cell?, h.box], by simp [World.cell?, h.box], by simp [World.cell?, h.box], by simp [World.cell?, h.box], by simp [World.cell?, h.box], by simp [World.cell?, h.box], by simp [World.cell?, h.box]⟩
theorem next_any (p dv : Value) (j : JZ) (w : World) (lo : Nat) (h : JAt w lo p dv j) : Calls Tryz.prog 37 #[p] w fun e w' => e = .returned (.int .i64 j.next) ∧ w' = w := by
  obtain ⟨b, nv, bv, tv, rfl, hj⟩ := h
  obtain ⟨c0, c1, c2, c3, c4, c5, c6⟩ := hj.cells
  clear hj
  go_enter Tryz.func37, Tryz.ntmps37
  go_wp2
  go_ret
  exact ⟨rfl, rfl⟩
theorem numbers_any (p dv : Value) (j : JZ) (w : World) (lo : Nat) (h : JAt w lo p dv j) : Calls Tryz.prog 42 #[p] w fun e w' => ∃ v, e = .returned v ∧ w'.ownsRow w.heap.size 3 1 v j.nums.length (intsC j.nums) ∧ Below w.heap.size w w' := by
  obtain ⟨b, nv, bv, tv, rfl, hj⟩ := h
  obtain ⟨c0, c1, c2, c3, c4, c5, c6⟩ := hj.cells
  have HC := hidep (cloneI_any lo nv j.nums w hj.rn (by have := hj.len.1; omega))
  obtain ⟨na, nc, hnv, _, _⟩ := (Rd.of_own hj.rn).form
  clear hj
  rw [hnv] at c1 HC
  clear hnv
  go_enter Tryz.func42, Tryz.ntmps42
  go_wp2_with (first
    | (go_at_call 62; refine HC.out.mono ?_; rintro e w2 ⟨v, rfl, hown, hb⟩)
    | fail)
  go_ret
  exact ⟨v, rfl, hown, hb⟩
theorem bad_any (p dv : Value) (j : JZ) (w : World) (lo : Nat) (h : JAt w lo p dv j) : Calls Tryz.prog 22 #[p] w fun e w' => ∃ v, e = .returned v ∧ w'.ownsRow w.heap.size 3 1 v j.bad.length (intsC j.bad) ∧ Below w.heap.size w w' := by
  obtain ⟨b, nv, bv, tv, rfl, hj⟩ := h
  obtain ⟨c0, c1, c2, c3, c4, c5, c6⟩ := hj.cells
  have HC := hidep (cloneI_any lo bv j.bad w hj.rb (by have := hj.len.2.1; omega))
  obtain ⟨na, nc, hnv, _, _⟩ := (Rd.of_own hj.rb).form
  clear hj
  rw [hnv] at c2 HC
  clear hnv
  go_enter Tryz.func22, Tryz.ntmps22
  go_wp2_with (first
    | (go_at_call 62; refine HC.out.mono ?_; rintro e w2 ⟨v, rfl, hown, hb⟩)
    | fail)
  go_ret
  exact ⟨v, rfl, hown, hb⟩
theorem texts_any (p dv : Value) (j : JZ) (w : World) (lo : Nat) (h : JAt w lo p dv j) : Calls Tryz.prog 21 #[p] w fun e w' => ∃ v, e = .returned v ∧ w'.ownsRow w.heap.size 9 1 v j.texts.length (strL j.texts) ∧ Below w.heap.size w w' := by
  obtain ⟨b, nv, bv, tv, rfl, hj⟩ := h
  obtain ⟨c0, c1, c2, c3, c4, c5, c6⟩ := hj.cells
  have HC := hidep (cloneS_any lo tv j.texts w hj.rt (by have := hj.len.2.2; omega))
  obtain ⟨na, nc, hnv, _, _⟩ := (Rd.of_own hj.rt).form
  clear hj
  rw [hnv] at c3 HC
  clear hnv
  go_enter Tryz.func21, Tryz.ntmps21
  go_wp2_with (first
    | (go_at_call 61; refine HC.out.mono ?_; rintro e w2 ⟨v, rfl, hown, hb⟩)
    | fail)
  go_ret
  exact ⟨v, rfl, hown, hb⟩
end Go.Proofs.YtipbkdlekanlmaaGreatDoor
/- Journal: Room, Damaged. -/
namespace Go.Proofs.YtipbkdlekanlmaaGreatDoor
open Go.RowKit Go.Lab Go.Disk Go.Jn
attribute [local go_sem] Oper.semAt_some
set_option maxRecDepth 100000
set_option maxHeartbeats 2000000 in
theorem room_any (p dv : Value) (j : JZ) (D : Dk) (w0 : World) (lo dlo dhi : Nat) (h : JAt w0 lo p dv j) (hd : DiskAt w0 dlo dhi dv D) (hs : 0 ≤ j.stop ∧ j.stop ≤ 100000) :
    Calls Tryz.prog 38 #[p] w0 fun e w' => e = .returned (.int .i64 (roomZ j D)) ∧ Below w0.heap.size w0 w' := by
  obtain ⟨b, nv, bv, tv, rfl, hj⟩ := h
  have HC := hidep (fun Y (hY : Below w0.heap.size w0 Y) => (hj.below hY).cells)
  have HL := hidep (fun Y (hY : Below w0.heap.size w0 Y) => len_any dv D Y dlo dhi (hd.below hY))
  have hD := hd.ok.1.2.1
  obtain ⟨n, hn⟩ : ∃ n, n = D.s.length := ⟨_, rfl⟩
  have hr : roomZ j D = (n : Int) - j.stop := by rw [hn]; rfl
  rw [← hn] at HL hD
  rw [hr]
  obtain ⟨st, hst⟩ : ∃ st, st = j.stop := ⟨_, rfl⟩
  rw [← hst] at HC hs ⊢
  have hw : IntKind.i64.wrap ((n : Int) - st) = (n : Int) - st := IntWalk.i64_in _ (by omega)
  clear hj hd hn hr hst
  go_enter Tryz.func38, Tryz.ntmps38
  go_upto_region 1 with (fail)
  have hk0 := Below.refl w0.heap.size w0
  refine wp_region_noPanic (wp_region_held_drew (S := (fun Y => Below w0.heap.size w0 Y)) (by kernel_rfl) ?hS38r1n0 (fun hHeld => ?hR38r1n0))
  case hS38r1n0 => ((try dsimp only); (exact hk0.drew))
  refine wpAnyH_take (i := 0) (v := ?v38r1n0q1) rfl (by kernel_rfl) (by kernel_rfl) (by kernel_rfl) (fun _ _ _ h => h) (Or.inl ⟨by kernel_rfl, ?hy38r1n0q1⟩) (by assumption) ?hr38r1n0q1
  case hy38r1n0q1 => (intro w hSw; (try dsimp only at hSw); (obtain ⟨c0, c1, c2, c3, c4, c5, c6⟩ := HC.out w hSw); first | (go_simp; done) | (go_simp; with_reducible rfl))
  refine wpAnyH_take (i := 1) (v := ?v38r1n0q2) rfl (by kernel_rfl) (by kernel_rfl) (by kernel_rfl) (fun _ _ _ h => h) (Or.inl ⟨by kernel_rfl, ?hy38r1n0q2⟩) (by assumption) ?hr38r1n0q2
  case hy38r1n0q2 => (intro w hSw; (try dsimp only at hSw); (obtain ⟨c0, c1, c2, c3, c4, c5, c6⟩ := HC.out w hSw); first | (go_simp; done) | (go_simp; with_reducible rfl))
  refine wpAnyH_take (i := 2) (v := ?v38r1n0q3) rfl (by kernel_rfl) (by kernel_rfl) (by kernel_rfl) (fun _ _ _ h => h) (Or.inl ⟨by kernel_rfl, ?hy38r1n0q3⟩) (by assumption) ?hr38r1n0q3
  case hy38r1n0q3 => (intro w hSw; (try dsimp only at hSw); (obtain ⟨c0, c1, c2, c3, c4, c5, c6⟩ := HC.out w hSw); first | (go_simp; done) | (go_simp; with_reducible rfl))
  refine wpAnyH_take (i := 3) (v := ?v38r1n0q4) rfl (by kernel_rfl) (by kernel_rfl) (by kernel_rfl) (fun _ _ _ h => h) (Or.inl ⟨by kernel_rfl, ?hy38r1n0q4⟩) (by assumption) ?hr38r1n0q4
  case hy38r1n0q4 => (intro w hSw; (try dsimp only at hSw); (obtain ⟨c0, c1, c2, c3, c4, c5, c6⟩ := HC.out w hSw); first | (go_simp; done) | (go_simp; with_reducible rfl))
  refine wpAnyH_take (i := 5) (v := ?v38r1n0q5) rfl (by kernel_rfl) (by kernel_rfl) (by kernel_rfl) (fun _ _ _ h => h) (Or.inl ⟨by kernel_rfl, ?hy38r1n0q5⟩) (by assumption) ?hr38r1n0q5
  case hy38r1n0q5 => (intro w hSw; (try dsimp only at hSw); (obtain ⟨c0, c1, c2, c3, c4, c5, c6⟩ := HC.out w hSw); first | (go_simp; done) | (go_simp; with_reducible rfl))
  refine wpAnyH_take (i := 6) (v := ?v38r1n0q6) rfl (by kernel_rfl) (by kernel_rfl) (by kernel_rfl) (fun _ _ _ h => h) (Or.inl ⟨by kernel_rfl, ?hy38r1n0q6⟩) (by assumption) ?hr38r1n0q6
  case hy38r1n0q6 => (intro w hSw; (try dsimp only at hSw); (obtain ⟨c0, c1, c2, c3, c4, c5, c6⟩ := HC.out w hSw); first | (go_simp; done) | (go_simp; with_reducible rfl))
  refine wpAnyH_take (i := 7) (v := ?v38r1n0q7) rfl (by kernel_rfl) (by kernel_rfl) (by kernel_rfl) (fun _ _ _ h => h) (Or.inl ⟨by kernel_rfl, ?hy38r1n0q7⟩) (by assumption) ?hr38r1n0q7
  case hy38r1n0q7 => (intro w hSw; (try dsimp only at hSw); (obtain ⟨c0, c1, c2, c3, c4, c5, c6⟩ := HC.out w hSw); first | (go_simp; done) | (go_simp; with_reducible rfl))
  refine wpAnyH_take (i := 8) (v := ?v38r1n0q8) rfl (by kernel_rfl) (by kernel_rfl) (by kernel_rfl) (fun _ _ _ h => h) (Or.inl ⟨by kernel_rfl, ?hy38r1n0q8⟩) (by assumption) ?hr38r1n0q8
  case hy38r1n0q8 => (intro w hSw; (try dsimp only at hSw); (obtain ⟨c0, c1, c2, c3, c4, c5, c6⟩ := HC.out w hSw); first | (go_simp; done) | (go_simp; with_reducible rfl))
  refine wpAnyH_ready (rs := [4]) (by kernel_rfl) (by simp) (AllReadyH.cons rfl (fun K hK => ?hc38r1n0q9) AllReadyH.nil)
  go_simp
  (go_at_call 47; refine (HL.out _ hHeld).mono ?_; rintro e w7 ⟨rfl, rfl⟩; have hk := hHeld; (try dsimp only))
  refine hK.out _ _ ?hs38r1n0q9 (fun hHeld38r1n0q9 => ?ht38r1n0q9)
  case hs38r1n0q9 => ((try dsimp only); (exact hHeld))
  clear hHeld hK
  have hHeld := hHeld38r1n0q9
  clear hHeld38r1n0q9
  refine wpAnyH_take (i := 9) (v := ?v38r1n0q10) rfl (by kernel_rfl) (by kernel_rfl) (by kernel_rfl) (fun _ _ _ h => h) (Or.inl ⟨by kernel_rfl, ?hy38r1n0q10⟩) (by assumption) ?hr38r1n0q10
  case hy38r1n0q10 => (intro w hSw; (try dsimp only at hSw); (obtain ⟨c0, c1, c2, c3, c4, c5, c6⟩ := HC.out w hSw); first | (go_simp; done) | (go_simp; with_reducible rfl))
  refine wpAnyH_take (i := 10) (v := ?v38r1n0q11) rfl (by kernel_rfl) (by kernel_rfl) (by kernel_rfl) (fun _ _ _ h => h) (Or.inl ⟨by kernel_rfl, ?hy38r1n0q11⟩) (by assumption) ?hr38r1n0q11
  case hy38r1n0q11 => (intro w hSw; (try dsimp only at hSw); (obtain ⟨c0, c1, c2, c3, c4, c5, c6⟩ := HC.out w hSw); first | (go_simp; done) | (go_simp; with_reducible rfl))
  refine wpAnyH_done (by kernel_rfl) ?_ _
  clear hHeld
  refine NoPanic.normal ?_
  apply_assumption
  refine wp_ret ?_
  show bodyPost Tryz.prog Tryz.f38 (fun e w' => e = .returned (.int .i64 ((n : Int) - st)) ∧ Below w0.heap.size w0 w') Exit.ret _ _
  refine bodyPost_ret (P := Tryz.prog) (fn := Tryz.f38) (results_tmp rfl _ _ _) (by kernel_rfl) ?_
  exact ⟨by kernel_rfl, hk⟩
end Go.Proofs.YtipbkdlekanlmaaGreatDoor
/- The library's slices.Sorted(maps.Keys) at int, as the shelf's contracts ask it: written by the kit's lay-plain, names turned. -/
namespace Go.Proofs.YtipbkdlekanlmaaGreatDoor
open Go.Shelf
def shKeysA_ren : Go.Shelf.Ren := ⟨fun | 7 => 84 | 10 => 99 | n => n, fun | 23 => 75 | 26 => 3 | 3 => 86 | 28 => 135 | 0 => 0 | 27 => 134 | 33 => 87 | 4 => 4 | n => n, fun | n => n⟩
theorem shKeysA : Go.Proofs.SlLaysZI.n7 Tryz.prog shKeysA_ren := {
  mixed := by kernel_rfl
  f7 := ⟨Tryz.f84.name, by decide, Tryz.func84.trans (congrArg some (by kernel_rfl))⟩
  f10 := ⟨Tryz.f99.name, by decide, Tryz.func99.trans (congrArg some (by kernel_rfl))⟩
  t0 := Tryz.underlying0
  a0 := Tryz.isAgg0
  z0 := Tryz.sizeOf0
  v0 := Tryz.zeroValue0
  t4 := Tryz.underlying4
  a4 := Tryz.isAgg4
  z4 := Tryz.sizeOf4
  v4 := Tryz.zeroValue4
  t23 := Tryz.underlying75
  a23 := Tryz.isAgg75
  z23 := Tryz.sizeOf75
  v23 := Tryz.zeroValue75
  t26 := Tryz.underlying3
  a26 := Tryz.isAgg3
  z26 := Tryz.sizeOf3
  v26 := Tryz.zeroValue3
  t27 := Tryz.underlying134
  a27 := Tryz.isAgg134
  z27 := Tryz.sizeOf134
  v27 := Tryz.zeroValue134
  t28 := Tryz.underlying135
  a28 := Tryz.isAgg135
  z28 := Tryz.sizeOf135
  v28 := Tryz.zeroValue135
  t33 := Tryz.underlying87
  a33 := Tryz.isAgg87
  z33 := Tryz.sizeOf87
  v33 := Tryz.zeroValue87 }
def shSortedA_ren : Go.Shelf.Ren := ⟨fun | 6 => 83 | 8 => 97 | 9 => 98 | 11 => 107 | 13 => 109 | 12 => 108 | 23 => 121 | 24 => 122 | 14 => 112 | 15 => 113 | 16 => 114 | 17 => 115 | 18 => 116 | 19 => 117 | 20 => 118 | 21 => 119 | 22 => 120 | 25 => 124 | 26 => 125 | 27 => 126 | 28 => 127 | 29 => 128 | 30 => 129 | 31 => 130 | n => n, fun | 26 => 3 | 28 => 135 | 24 => 51 | 0 => 0 | 3 => 3 | 37 => 47 | 48 => 137 | 50 => 140 | 4 => 4 | 40 => 172 | 39 => 171 | 45 => 177 | 5 => 5 | 9 => 9 | 51 => 181 | 55 => 185 | 57 => 187 | 58 => 188 | 33 => 87 | n => n, fun | n => n⟩
theorem shSortedA : Go.Proofs.SlLaysZI.n6 Tryz.prog shSortedA_ren := {
  mixed := by kernel_rfl
  f6 := ⟨Tryz.f83.name, by decide, Tryz.func83.trans (congrArg some (by kernel_rfl))⟩
  f8 := ⟨Tryz.f97.name, by decide, Tryz.func97.trans (congrArg some (by kernel_rfl))⟩
  f11 := ⟨Tryz.f107.name, by decide, Tryz.func107.trans (congrArg some (by kernel_rfl))⟩
  t0 := Tryz.underlying0
  a0 := Tryz.isAgg0
  z0 := Tryz.sizeOf0
  v0 := Tryz.zeroValue0
  t24 := Tryz.underlying51
  a24 := Tryz.isAgg51
  z24 := Tryz.sizeOf51
  v24 := Tryz.zeroValue51
  t26 := Tryz.underlying3
  a26 := Tryz.isAgg3
  z26 := Tryz.sizeOf3
  v26 := Tryz.zeroValue3
  t28 := Tryz.underlying135
  a28 := Tryz.isAgg135
  z28 := Tryz.sizeOf135
  v28 := Tryz.zeroValue135
  i26 := by kernel_rfl }
def shSortA_ren : Go.Shelf.Ren := ⟨fun | 5 => 98 | 8 => 109 | 7 => 108 | 19 => 121 | 20 => 122 | 10 => 112 | 11 => 113 | 12 => 114 | 13 => 115 | 14 => 116 | 15 => 117 | 16 => 118 | 17 => 119 | 18 => 120 | 30 => 124 | 31 => 125 | 32 => 126 | 33 => 127 | 34 => 128 | 35 => 129 | 40 => 130 | n => n, fun | 23 => 51 | 25 => 3 | 3 => 3 | 32 => 47 | 22 => 51 | 0 => 0 | 44 => 137 | 46 => 140 | 4 => 4 | 36 => 172 | 35 => 171 | 41 => 177 | 5 => 5 | 9 => 9 | 53 => 181 | 57 => 185 | 63 => 187 | 64 => 188 | n => n, fun | n => n⟩
theorem shSortA : Go.Proofs.SlLaysM.n5 Tryz.prog shSortA_ren := {
  mixed := by kernel_rfl
  f5 := ⟨Tryz.f98.name, by decide, Tryz.func98.trans (congrArg some (by kernel_rfl))⟩
  f7 := ⟨Tryz.f108.name, by decide, Tryz.func108.trans (congrArg some (by kernel_rfl))⟩
  f8 := Tryz.func109.trans (congrArg some (by kernel_rfl))
  f10 := ⟨Tryz.f112.name, by decide, Tryz.func112.trans (congrArg some (by kernel_rfl))⟩
  f11 := ⟨Tryz.f113.name, by decide, Tryz.func113.trans (congrArg some (by kernel_rfl))⟩
  f12 := ⟨Tryz.f114.name, by decide, Tryz.func114.trans (congrArg some (by kernel_rfl))⟩
  f13 := ⟨Tryz.f115.name, by decide, Tryz.func115.trans (congrArg some (by kernel_rfl))⟩
  f14 := ⟨Tryz.f116.name, by decide, Tryz.func116.trans (congrArg some (by kernel_rfl))⟩
  f15 := ⟨Tryz.f117.name, by decide, Tryz.func117.trans (congrArg some (by kernel_rfl))⟩
  f16 := ⟨Tryz.f118.name, by decide, Tryz.func118.trans (congrArg some (by kernel_rfl))⟩
  f17 := ⟨Tryz.f119.name, by decide, Tryz.func119.trans (congrArg some (by kernel_rfl))⟩
  f18 := ⟨Tryz.f120.name, by decide, Tryz.func120.trans (congrArg some (by kernel_rfl))⟩
  f19 := Tryz.func121.trans (congrArg some (by kernel_rfl))
  f20 := Tryz.func122.trans (congrArg some (by kernel_rfl))
  f30 := ⟨Tryz.f124.name, by decide, Tryz.func124.trans (congrArg some (by kernel_rfl))⟩
  f31 := Tryz.func125.trans (congrArg some (by kernel_rfl))
  f32 := Tryz.func126.trans (congrArg some (by kernel_rfl))
  f33 := ⟨Tryz.f127.name, by decide, Tryz.func127.trans (congrArg some (by kernel_rfl))⟩
  f34 := ⟨Tryz.f128.name, by decide, Tryz.func128.trans (congrArg some (by kernel_rfl))⟩
  f35 := ⟨Tryz.f129.name, by decide, Tryz.func129.trans (congrArg some (by kernel_rfl))⟩
  f40 := ⟨Tryz.f130.name, by decide, Tryz.func130.trans (congrArg some (by kernel_rfl))⟩
  t0 := Tryz.underlying0
  a0 := Tryz.isAgg0
  z0 := Tryz.sizeOf0
  v0 := Tryz.zeroValue0
  t3 := Tryz.underlying3
  a3 := Tryz.isAgg3
  z3 := Tryz.sizeOf3
  v3 := Tryz.zeroValue3
  t4 := Tryz.underlying4
  a4 := Tryz.isAgg4
  z4 := Tryz.sizeOf4
  v4 := Tryz.zeroValue4
  t5 := Tryz.underlying5
  a5 := Tryz.isAgg5
  z5 := Tryz.sizeOf5
  v5 := Tryz.zeroValue5
  t9 := Tryz.underlying9
  a9 := Tryz.isAgg9
  z9 := Tryz.sizeOf9
  v9 := Tryz.zeroValue9
  t22 := Tryz.underlying51
  a22 := Tryz.isAgg51
  z22 := Tryz.sizeOf51
  v22 := Tryz.zeroValue51
  t23 := Tryz.underlying51
  a23 := Tryz.isAgg51
  z23 := Tryz.sizeOf51
  v23 := Tryz.zeroValue51
  t25 := Tryz.underlying3
  a25 := Tryz.isAgg3
  z25 := Tryz.sizeOf3
  v25 := Tryz.zeroValue3
  t32 := Tryz.underlying47
  a32 := Tryz.isAgg47
  z32 := Tryz.sizeOf47
  v32 := Tryz.zeroValue47
  t35 := Tryz.underlying171
  a35 := Tryz.isAgg171
  z35 := Tryz.sizeOf171
  v35 := Tryz.zeroValue171
  t36 := Tryz.underlying172
  a36 := Tryz.isAgg172
  z36 := Tryz.sizeOf172
  v36 := Tryz.zeroValue172
  t41 := Tryz.underlying177
  a41 := Tryz.isAgg177
  z41 := Tryz.sizeOf177
  v41 := Tryz.zeroValue177
  t44 := Tryz.underlying137
  a44 := Tryz.isAgg137
  z44 := Tryz.sizeOf137
  v44 := Tryz.zeroValue137
  t46 := Tryz.underlying140
  a46 := Tryz.isAgg140
  z46 := Tryz.sizeOf140
  v46 := Tryz.zeroValue140
  t53 := Tryz.underlying181
  a53 := Tryz.isAgg181
  z53 := Tryz.sizeOf181
  v53 := Tryz.zeroValue181
  t57 := Tryz.underlying185
  a57 := Tryz.isAgg185
  z57 := Tryz.sizeOf185
  v57 := Tryz.zeroValue185
  t63 := Tryz.underlying187
  a63 := Tryz.isAgg187
  z63 := Tryz.sizeOf187
  v63 := Tryz.zeroValue187
  t64 := Tryz.underlying188
  a64 := Tryz.isAgg188
  z64 := Tryz.sizeOf188
  v64 := Tryz.zeroValue188 }
end Go.Proofs.YtipbkdlekanlmaaGreatDoor
/- Contracts of the program's disk: Pending, Worn (sorted keys of a map, by the shelf's contracts). -/
namespace Go.Proofs.YtipbkdlekanlmaaGreatDoor
open Go.RowKit Go.Lab Go.Disk Go.Maps Go.Sort Go.Shelf
theorem sorts_in (m : Nat) : AnyZI.SortsIn Tryz.prog shSortedA_ren Fence.wide m :=
  ⟨fun blk off cap ss W hH hblk hsz => callsIn_wide.2 (AnyM.slices_Sort_int shSortA blk off cap ss W hH hblk hsz), fun p cap W => callsIn_wide.2 (AnyM.slices_Sort_int_none shSortA p cap W)⟩
theorem keysA_any (mb : Option Nat) (W : World) : CallsIn Fence.wide 5 Tryz.prog 84 #[.map mb] W fun e w' => e = .returned (.func (.func 99) #[] #[.pointer (some ⟨W.heap.size, 0, none⟩)]) ∧ w' = W.alloc (.cells #[.map mb] 75) :=
  AnyZI.keys_in shKeysA Fence.wide 5 trivial rfl mb W
theorem sortedA_any (b nn : Nat) (D0 : DataW Unit) (R : Value → Option (DataW Unit × List MemPlace)) (w : World) (hown : w.ownsMap Tryz.prog 3 R b nn D0) (hmax : size D0 ≤ maxLen) (hbytes : size D0 * 8 ≤ 140737488355328) :
    CallsIn Fence.wide 5 Tryz.prog 83 #[.func (.func 99) #[] #[.pointer (some ⟨w.heap.size, 0, none⟩)]] (w.alloc (.cells #[.map (some b)] 75)) fun e w' => ∃ (v : Value) (ss : List Int), e = .returned v ∧ ss.Perm (intKeys D0) ∧
      w'.ownsRow (w.alloc (.cells #[.map (some b)] 75)).heap.size 3 1 v ss.length ((ss.mergeSort (fun x y => decide (x ≤ y))).map encZ) ∧ (v = .slice none 0 0 ↔ ss = []) ∧ Below (w.alloc (.cells #[.map (some b)] 75)).heap.size (w.alloc (.cells #[.map (some b)] 75)) w' := by
  have hbl := hown.lt
  have hseq : SeqGives Fence.wide 2 Tryz.prog 99 #[.pointer (some ⟨w.heap.size, 0, none⟩)] encZ (fun ss => ss.Perm (intKeys D0)) (size D0) (w.alloc (.cells #[.map (some b)] 75)) :=
    AnyZI.keys_gives (ρ := shKeysA_ren) { shKeysA with } Fence.wide _ trivial rfl (by omega) w.heap.size b nn D0 _ (by simp) (by simp) (by
      obtain ⟨es, clock, hb, Ft, hs, hD⟩ := hown
      exact ⟨es, clock, (Below.heap_alloc _ _ b hbl).trans hb, Ft, hs, hD⟩)
  exact AnyZI.sorted_in shSortedA Fence.wide 5 trivial trivial trivial trivial rfl (by omega) (sorts_in _) (enters_of Tryz.func98 (by kernel_rfl) rfl) 99 #[.pointer (some ⟨w.heap.size, 0, none⟩)] trivial (enters_of Tryz.func99 (by kernel_rfl) rfl) _ _ hmax hbytes _ hseq
theorem own_baseD {w : World} {base base' : Nat} {e : TypeId} {k n : Nat} {v : Value} {xs : List Value} (h : w.ownsRow base e k v n xs) (hb : base' ≤ base) : w.ownsRow base' e k v n xs := by
  refine ⟨h.1, ?_⟩
  rcases h.2 with h2 | ⟨g, cap, cur, hv, hg, r⟩
  · exact .inl h2
  · exact .inr ⟨g, cap, cur, hv, Nat.le_trans hb hg, r⟩
set_option maxHeartbeats 1000000 in
theorem pending_any (p : Value) (D : Dk) (w : World) (lo hi : Nat) (h : DiskAt w lo hi p D) :
    Calls Tryz.prog 64 #[p] w fun e w' => ∃ v, e = .returned v ∧ w'.ownsRow w.heap.size 3 1 v (pendZ D.s 0).length (intsC (pendZ D.s 0)) ∧ Below w.heap.size w w' := by
  obtain ⟨b, g, mb, wb, c, l, P, W, rfl, h⟩ := h
  have c1 := h.c1
  have hps := pend_size h.pend h.pv
  have hn4 := h.ok.1.2.1
  have hperm := keys_perm_of h.pend (pendZ_sorted D.s 0) (pend_mem h.pv)
  have HC := hidep (sortedA_any mb _ P _ w h.pend (by unfold maxLen; omega) (by omega))
  have HP := hidep hperm
  clear hperm h hps hn4
  refine (callsIn_wide (n := 6)).1 ?_
  have hfK : Fence.wide.fn 84 := trivial
  have hfS : Fence.wide.fn 83 := trivial
  refine callsIn_of_wp Tryz.func64 rfl trivial ?_ rfl
  simp only [Tryz.ntmps64, List.size_toArray, List.length_cons, List.length_nil, Nat.reduceAdd, Nat.reduceSub, Array.replicate_succ, Array.replicate_zero, List.push_toArray, List.append_toArray, List.nil_append, List.cons_append]
  gi_wp2_with (first
    | (gi_at_call 84; refine (keysA_any _ _).mono ?_; rintro e w' ⟨rfl, rfl⟩)
    | (gi_at_call 83; refine HC.out.mono ?_; rintro e w' ⟨v, ss, rfl, hS, hrow, hnil, hb⟩))
  go_ret
  have e1 : ss.mergeSort (fun x y => decide (x ≤ y)) = pendZ D.s 0 := sorted_of_perm (pendZ_sorted D.s 0) (hS.trans HP.out.symm)
  have e2 : ss.length = (pendZ D.s 0).length := (hS.trans HP.out.symm).length_eq
  rw [e1, e2] at hrow
  exact ⟨v, rfl, own_baseD hrow (by simp), ((Below.refl _ w).alloc (Nat.le_refl _) _).trans (hb.mono (by simp))⟩
end Go.Proofs.YtipbkdlekanlmaaGreatDoor
/- Contracts of the reference: the image, the pending and the worn sectors. -/
namespace Go.Proofs.YtipbkdlekanlmaaGreatDoor
open Go.RowKit Go.Lab Go.Disk
theorem strsC_one (l : List ByteArray) : ∀ u ∈ strsC l, u.oneCell' = true := by
  intro u hu
  obtain ⟨x, _, rfl⟩ := List.mem_map.1 hu
  rfl
set_option maxHeartbeats 1000000 in
theorem rimage_any (p : Value) (D : Dk) (w : World) (lo hi : Nat) (h : RDiskAt w lo hi p D) :
    Calls Tryz.prog 36 #[p] w fun e w' => ∃ v, e = .returned v ∧ w'.ownsRow w.heap.size 9 1 v D.s.length (strsC (imageZ D)) ∧ Below w.heap.size w w' := by
  obtain ⟨b, g, c, rfl, h⟩ := h
  have hn4 := h.ok.1.2.1
  have H := hidep h
  clear h
  obtain ⟨n, hn⟩ : ∃ n, D.s.length = n := ⟨_, rfl⟩
  have HN := hidep hn
  rw [hn] at hn4
  clear hn
  go_enter Tryz.func36, Tryz.ntmps36
  go_wp2
  go_loopw [3, 4] (fun v i wr => ∃ j : Nat, j ≤ n ∧ i = .int .i64 j ∧ wr.ownsRow w.heap.size 9 1 v j (strsC ((imageZ D).take j)) ∧ Hid (Below w.heap.size w wr)) (fun _ i _ => n - (RowKit.intOf i).toNat)
  case atStart => exact ⟨0, Nat.zero_le _, rfl, World.ownsRow_nil _ _ _ _, hidep (Below.refl _ _)⟩
  case round =>
    obtain ⟨j, hj, rfl, hown, HB⟩ := hrel
    have h1 : RDiskIn wr lo hi b g c D := H.out.keep (lo' := hi) (hi' := hi) (Turn.of_below HB.out) (.inl (Nat.le_refl _))
    have c0 := h1.c0
    rw [HN.out] at c0
    by_cases hlt : j < n
    · have hjl : j < D.s.length := by rw [HN.out]; exact hlt
      obtain ⟨d0, d1, d2, d3⟩ := h1.at hjl
      have hz := HB.out.size
      rw [atS_get hjl] at d0
      have HT : Hid ((imageZ D).take (j + 1) = (imageZ D).take j ++ [D.s[j].text]) := hidep (by
        rw [List.take_succ_eq_append_getElem (by simpa [imageZ] using hjl)]
        simp [imageZ])
      clear d1 d2 d3 h1
      generalize D.s[j].text = x at *
      clear hjl
      generalize (imageZ D).take j = L at *
      go_wp2_with (first
        | (at_builtin; refine wpList_append_rd _ rfl (.tmp 14) (.tmp 23) rfl slStrs w.heap.size _ _ _ rfl (hown.alloc _) _ _ _ _ rfl (Rd.fresh wr #[.string x] 9 1 1 rfl (by decide)) (by intro u hu; simp at hu; subst hu; rfl) (by unfold maxLen; omega) (by omega) (by simp; omega) ?_; intro v1 w1 hown1 hgr1 hat hnl; clear hat hnl)
        | fail)
      have hb1 : Below w.heap.size w w1 := ((HB.out.alloc HB.out.size _).grown hgr1 (by simp; omega) (fun g hg => (hown.lt g hg).1))
      have HB1 := hidep hb1
      clear hb1 hgr1
      go_roundw
      case rel => exact ⟨j + 1, by omega, by go_num, by rw [HT.out]; simpa [strsC] using hown1, HB1⟩
      case measure => simp [RowKit.intOf]; omega
    · clear h1
      go_wp2
      go_ret
      have hjn : j = n := by omega
      have e : (imageZ D).take j = imageZ D := List.take_of_length_le (by simp [imageZ, HN.out]; omega)
      rw [e] at hown
      exact ⟨_, rfl, by rw [HN.out, ← hjn]; exact hown, HB.out⟩
theorem pendZ_snoc : ∀ (S : List Sec) (o : Nat) (x : Sec), pendZ (S ++ [x]) o = pendZ S o ++ (if x.dirty = true then [((o + S.length : Nat) : Int)] else [])
  | [], o, x => by simp [pendZ]
  | y :: r, o, x => by
    rw [List.cons_append, pendZ, pendZ_snoc r (o + 1) x, pendZ]
    have e : o + 1 + r.length = o + (y :: r).length := by simp; omega
    rw [e]
    split <;> simp
theorem pendZ_take {S : List Sec} {j : Nat} (h : j < S.length) : pendZ (S.take (j + 1)) 0 = pendZ (S.take j) 0 ++ (if S[j].dirty = true then [(j : Int)] else []) := by
  rw [List.take_succ_eq_append_getElem h, pendZ_snoc]
  have e : 0 + (S.take j).length = j := by rw [List.length_take]; omega
  rw [e]
theorem wornZ_take {S : List Sec} {j : Nat} (h : j < S.length) : wornZ (S.take (j + 1)) 0 = wornZ (S.take j) 0 ++ (if S[j].worn = true then [(j : Int)] else []) := by
  rw [wornZ_flip, wornZ_flip, List.map_take, List.map_take, pendZ_take (by simpa using h)]
  simp [Disk.flip]
end Go.Proofs.YtipbkdlekanlmaaGreatDoor
