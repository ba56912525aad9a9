/- Journal: Room, Damaged. -/
import Derived.Test.YtipbkdlekanlmaaDoorJs14
import Derived.Shelf.SlIterI.Nil
import Derived.Shelf.SortM.Plain
import Derived.Shelf.SortM.SortNone
import Derived.Ground.GgzProg
import Derived.Ground.SlgmProg
import Derived.Test.YtipbkdlekanlmaaDoorRows
import Derived.Test.YtipbkdlekanlmaaDoorJs02
import Derived.Laws.IdiomStrings
import Derived.Laws.BitsAllLaws
import Derived.OneCell
import Derived.Deep.WholeRow
namespace Go.Proofs.YtipbkdlekanlmaaDoor
open Go.RowKit Go.Lab Go.Disk Go.Jn
attribute [local go_sem] Oper.semAt_some
set_option maxRecDepth 100000
set_option maxHeartbeats 2000000 in
theorem room_any (p dv : Value) (j : JZ) (D : Dk) (w0 : World) (lo dlo dhi : Nat) (h : JAt w0 lo p dv j) (hd : DiskAt w0 dlo dhi dv D) (hs : 0 ≤ j.stop ∧ j.stop ≤ 100000) :
    Calls Tryd.prog 22 #[p] w0 fun e w' => e = .returned (.int .i64 (roomZ j D)) ∧ Below w0.heap.size w0 w' := by
  obtain ⟨b, nv, bv, tv, rfl, hj⟩ := h
  have HC := hidep (fun Y (hY : Below w0.heap.size w0 Y) => (hj.below hY).cells)
  have HL := hidep (fun Y (hY : Below w0.heap.size w0 Y) => len_any dv D Y dlo dhi (hd.below hY))
  have hD := hd.ok.1.2.1
  obtain ⟨n, hn⟩ : ∃ n, n = D.s.length := ⟨_, rfl⟩
  have hr : roomZ j D = (n : Int) - j.stop := by rw [hn]; rfl
  rw [← hn] at HL hD
  rw [hr]
  obtain ⟨st, hst⟩ : ∃ st, st = j.stop := ⟨_, rfl⟩
  rw [← hst] at HC hs ⊢
  have hw : IntKind.i64.wrap ((n : Int) - st) = (n : Int) - st := IntWalk.i64_in _ (by omega)
  clear hj hd hn hr hst
  go_enter Tryd.func22, Tryd.ntmps22
  go_upto_region 1 with (fail)
  have hk0 := Below.refl w0.heap.size w0
  refine wp_region_noPanic (wp_region_held_drew (S := (fun Y => Below w0.heap.size w0 Y)) (by kernel_rfl) ?hS22r1n0 (fun hHeld => ?hR22r1n0))
  case hS22r1n0 => ((try dsimp only); (exact hk0.drew))
  refine wpAnyH_take (i := 0) (v := ?v22r1n0q1) rfl (by kernel_rfl) (by kernel_rfl) (by kernel_rfl) (fun _ _ _ h => h) (Or.inl ⟨by kernel_rfl, ?hy22r1n0q1⟩) (by assumption) ?hr22r1n0q1
  case hy22r1n0q1 => (intro w hSw; (try dsimp only at hSw); (obtain ⟨c0, c1, c2, c3, c4, c5, c6⟩ := HC.out w hSw); first | (go_simp; done) | (go_simp; with_reducible rfl))
  refine wpAnyH_take (i := 1) (v := ?v22r1n0q2) rfl (by kernel_rfl) (by kernel_rfl) (by kernel_rfl) (fun _ _ _ h => h) (Or.inl ⟨by kernel_rfl, ?hy22r1n0q2⟩) (by assumption) ?hr22r1n0q2
  case hy22r1n0q2 => (intro w hSw; (try dsimp only at hSw); (obtain ⟨c0, c1, c2, c3, c4, c5, c6⟩ := HC.out w hSw); first | (go_simp; done) | (go_simp; with_reducible rfl))
  refine wpAnyH_take (i := 2) (v := ?v22r1n0q3) rfl (by kernel_rfl) (by kernel_rfl) (by kernel_rfl) (fun _ _ _ h => h) (Or.inl ⟨by kernel_rfl, ?hy22r1n0q3⟩) (by assumption) ?hr22r1n0q3
  case hy22r1n0q3 => (intro w hSw; (try dsimp only at hSw); (obtain ⟨c0, c1, c2, c3, c4, c5, c6⟩ := HC.out w hSw); first | (go_simp; done) | (go_simp; with_reducible rfl))
  refine wpAnyH_take (i := 3) (v := ?v22r1n0q4) rfl (by kernel_rfl) (by kernel_rfl) (by kernel_rfl) (fun _ _ _ h => h) (Or.inl ⟨by kernel_rfl, ?hy22r1n0q4⟩) (by assumption) ?hr22r1n0q4
  case hy22r1n0q4 => (intro w hSw; (try dsimp only at hSw); (obtain ⟨c0, c1, c2, c3, c4, c5, c6⟩ := HC.out w hSw); first | (go_simp; done) | (go_simp; with_reducible rfl))
  refine wpAnyH_take (i := 5) (v := ?v22r1n0q5) rfl (by kernel_rfl) (by kernel_rfl) (by kernel_rfl) (fun _ _ _ h => h) (Or.inl ⟨by kernel_rfl, ?hy22r1n0q5⟩) (by assumption) ?hr22r1n0q5
  case hy22r1n0q5 => (intro w hSw; (try dsimp only at hSw); (obtain ⟨c0, c1, c2, c3, c4, c5, c6⟩ := HC.out w hSw); first | (go_simp; done) | (go_simp; with_reducible rfl))
  refine wpAnyH_take (i := 6) (v := ?v22r1n0q6) rfl (by kernel_rfl) (by kernel_rfl) (by kernel_rfl) (fun _ _ _ h => h) (Or.inl ⟨by kernel_rfl, ?hy22r1n0q6⟩) (by assumption) ?hr22r1n0q6
  case hy22r1n0q6 => (intro w hSw; (try dsimp only at hSw); (obtain ⟨c0, c1, c2, c3, c4, c5, c6⟩ := HC.out w hSw); first | (go_simp; done) | (go_simp; with_reducible rfl))
  refine wpAnyH_take (i := 7) (v := ?v22r1n0q7) rfl (by kernel_rfl) (by kernel_rfl) (by kernel_rfl) (fun _ _ _ h => h) (Or.inl ⟨by kernel_rfl, ?hy22r1n0q7⟩) (by assumption) ?hr22r1n0q7
  case hy22r1n0q7 => (intro w hSw; (try dsimp only at hSw); (obtain ⟨c0, c1, c2, c3, c4, c5, c6⟩ := HC.out w hSw); first | (go_simp; done) | (go_simp; with_reducible rfl))
  refine wpAnyH_take (i := 8) (v := ?v22r1n0q8) rfl (by kernel_rfl) (by kernel_rfl) (by kernel_rfl) (fun _ _ _ h => h) (Or.inl ⟨by kernel_rfl, ?hy22r1n0q8⟩) (by assumption) ?hr22r1n0q8
  case hy22r1n0q8 => (intro w hSw; (try dsimp only at hSw); (obtain ⟨c0, c1, c2, c3, c4, c5, c6⟩ := HC.out w hSw); first | (go_simp; done) | (go_simp; with_reducible rfl))
  refine wpAnyH_ready (rs := [4]) (by kernel_rfl) (by simp) (AllReadyH.cons rfl (fun K hK => ?hc22r1n0q9) AllReadyH.nil)
  go_simp
  (go_at_call 32; refine (HL.out _ hHeld).mono ?_; rintro e w7 ⟨rfl, rfl⟩; have hk := hHeld; (try dsimp only))
  refine hK.out _ _ ?hs22r1n0q9 (fun hHeld22r1n0q9 => ?ht22r1n0q9)
  case hs22r1n0q9 => ((try dsimp only); (exact hHeld))
  clear hHeld hK
  have hHeld := hHeld22r1n0q9
  clear hHeld22r1n0q9
  refine wpAnyH_take (i := 9) (v := ?v22r1n0q10) rfl (by kernel_rfl) (by kernel_rfl) (by kernel_rfl) (fun _ _ _ h => h) (Or.inl ⟨by kernel_rfl, ?hy22r1n0q10⟩) (by assumption) ?hr22r1n0q10
  case hy22r1n0q10 => (intro w hSw; (try dsimp only at hSw); (obtain ⟨c0, c1, c2, c3, c4, c5, c6⟩ := HC.out w hSw); first | (go_simp; done) | (go_simp; with_reducible rfl))
  refine wpAnyH_take (i := 10) (v := ?v22r1n0q11) rfl (by kernel_rfl) (by kernel_rfl) (by kernel_rfl) (fun _ _ _ h => h) (Or.inl ⟨by kernel_rfl, ?hy22r1n0q11⟩) (by assumption) ?hr22r1n0q11
  case hy22r1n0q11 => (intro w hSw; (try dsimp only at hSw); (obtain ⟨c0, c1, c2, c3, c4, c5, c6⟩ := HC.out w hSw); first | (go_simp; done) | (go_simp; with_reducible rfl))
  refine wpAnyH_done (by kernel_rfl) ?_ _
  clear hHeld
  refine NoPanic.normal ?_
  apply_assumption
  refine wp_ret ?_
  show bodyPost Tryd.prog Tryd.f22 (fun e w' => e = .returned (.int .i64 ((n : Int) - st)) ∧ Below w0.heap.size w0 w') Exit.ret _ _
  refine bodyPost_ret (P := Tryd.prog) (fn := Tryd.f22) (results_tmp rfl _ _ _) (by kernel_rfl) ?_
  exact ⟨by kernel_rfl, hk⟩
end Go.Proofs.YtipbkdlekanlmaaDoor
/- The library's slices.Sorted(maps.Keys) at int, as the shelf's contracts ask it: written by the kit's lay-plain, names turned. -/
namespace Go.Proofs.YtipbkdlekanlmaaDoor
open Go.Shelf
def shKeysA_ren : Go.Shelf.Ren := ⟨fun | 7 => 75 | 10 => 80 | n => n, fun | 23 => 69 | 26 => 3 | 3 => 98 | 28 => 137 | 0 => 0 | 27 => 136 | 33 => 143 | 4 => 4 | n => n, fun | n => n⟩
theorem shKeysA : Go.Proofs.SlLaysZI.n7 Tryd.prog shKeysA_ren := {
  mixed := by kernel_rfl
  f7 := ⟨Tryd.f75.name, by decide, Tryd.func75.trans (congrArg some (by kernel_rfl))⟩
  f10 := ⟨Tryd.f80.name, by decide, Tryd.func80.trans (congrArg some (by kernel_rfl))⟩
  t0 := Tryd.underlying0
  a0 := Tryd.isAgg0
  z0 := Tryd.sizeOf0
  v0 := Tryd.zeroValue0
  t4 := Tryd.underlying4
  a4 := Tryd.isAgg4
  z4 := Tryd.sizeOf4
  v4 := Tryd.zeroValue4
  t23 := Tryd.underlying69
  a23 := Tryd.isAgg69
  z23 := Tryd.sizeOf69
  v23 := Tryd.zeroValue69
  t26 := Tryd.underlying3
  a26 := Tryd.isAgg3
  z26 := Tryd.sizeOf3
  v26 := Tryd.zeroValue3
  t27 := Tryd.underlying136
  a27 := Tryd.isAgg136
  z27 := Tryd.sizeOf136
  v27 := Tryd.zeroValue136
  t28 := Tryd.underlying137
  a28 := Tryd.isAgg137
  z28 := Tryd.sizeOf137
  v28 := Tryd.zeroValue137
  t33 := Tryd.underlying143
  a33 := Tryd.isAgg143
  z33 := Tryd.sizeOf143
  v33 := Tryd.zeroValue143 }
def shSortedA_ren : Go.Shelf.Ren := ⟨fun | 6 => 74 | 8 => 78 | 9 => 79 | 11 => 82 | 13 => 84 | 12 => 83 | 23 => 94 | 24 => 95 | 14 => 85 | 15 => 86 | 16 => 87 | 17 => 88 | 18 => 89 | 19 => 90 | 20 => 91 | 21 => 92 | 22 => 93 | 25 => 96 | 26 => 97 | 27 => 98 | 28 => 99 | 29 => 100 | 30 => 101 | 31 => 102 | n => n, fun | 26 => 3 | 28 => 137 | 24 => 44 | 0 => 0 | 3 => 3 | 37 => 85 | 48 => 109 | 50 => 112 | 4 => 4 | 40 => 149 | 39 => 148 | 45 => 154 | 5 => 5 | 9 => 9 | 51 => 158 | 55 => 162 | 57 => 164 | 58 => 165 | 33 => 143 | n => n, fun | n => n⟩
theorem shSortedA : Go.Proofs.SlLaysZI.n6 Tryd.prog shSortedA_ren := {
  mixed := by kernel_rfl
  f6 := ⟨Tryd.f74.name, by decide, Tryd.func74.trans (congrArg some (by kernel_rfl))⟩
  f8 := ⟨Tryd.f78.name, by decide, Tryd.func78.trans (congrArg some (by kernel_rfl))⟩
  f11 := ⟨Tryd.f82.name, by decide, Tryd.func82.trans (congrArg some (by kernel_rfl))⟩
  t0 := Tryd.underlying0
  a0 := Tryd.isAgg0
  z0 := Tryd.sizeOf0
  v0 := Tryd.zeroValue0
  t24 := Tryd.underlying44
  a24 := Tryd.isAgg44
  z24 := Tryd.sizeOf44
  v24 := Tryd.zeroValue44
  t26 := Tryd.underlying3
  a26 := Tryd.isAgg3
  z26 := Tryd.sizeOf3
  v26 := Tryd.zeroValue3
  t28 := Tryd.underlying137
  a28 := Tryd.isAgg137
  z28 := Tryd.sizeOf137
  v28 := Tryd.zeroValue137
  i26 := by kernel_rfl }
def shSortA_ren : Go.Shelf.Ren := ⟨fun | 5 => 79 | 8 => 84 | 7 => 83 | 19 => 94 | 20 => 95 | 10 => 85 | 11 => 86 | 12 => 87 | 13 => 88 | 14 => 89 | 15 => 90 | 16 => 91 | 17 => 92 | 18 => 93 | 30 => 96 | 31 => 97 | 32 => 98 | 33 => 99 | 34 => 100 | 35 => 101 | 40 => 102 | n => n, fun | 23 => 44 | 25 => 3 | 3 => 3 | 32 => 85 | 22 => 44 | 0 => 0 | 44 => 109 | 46 => 112 | 4 => 4 | 36 => 149 | 35 => 148 | 41 => 154 | 5 => 5 | 9 => 9 | 53 => 158 | 57 => 162 | 63 => 164 | 64 => 165 | n => n, fun | n => n⟩
theorem shSortA : Go.Proofs.SlLaysM.n5 Tryd.prog shSortA_ren := {
  mixed := by kernel_rfl
  f5 := ⟨Tryd.f79.name, by decide, Tryd.func79.trans (congrArg some (by kernel_rfl))⟩
  f7 := ⟨Tryd.f83.name, by decide, Tryd.func83.trans (congrArg some (by kernel_rfl))⟩
  f8 := Tryd.func84.trans (congrArg some (by kernel_rfl))
  f10 := ⟨Tryd.f85.name, by decide, Tryd.func85.trans (congrArg some (by kernel_rfl))⟩
  f11 := ⟨Tryd.f86.name, by decide, Tryd.func86.trans (congrArg some (by kernel_rfl))⟩
  f12 := ⟨Tryd.f87.name, by decide, Tryd.func87.trans (congrArg some (by kernel_rfl))⟩
  f13 := ⟨Tryd.f88.name, by decide, Tryd.func88.trans (congrArg some (by kernel_rfl))⟩
  f14 := ⟨Tryd.f89.name, by decide, Tryd.func89.trans (congrArg some (by kernel_rfl))⟩
  f15 := ⟨Tryd.f90.name, by decide, Tryd.func90.trans (congrArg some (by kernel_rfl))⟩
  f16 := ⟨Tryd.f91.name, by decide, Tryd.func91.trans (congrArg some (by kernel_rfl))⟩
  f17 := ⟨Tryd.f92.name, by decide, Tryd.func92.trans (congrArg some (by kernel_rfl))⟩
  f18 := ⟨Tryd.f93.name, by decide, Tryd.func93.trans (congrArg some (by kernel_rfl))⟩
  f19 := Tryd.func94.trans (congrArg some (by kernel_rfl))
  f20 := Tryd.func95.trans (congrArg some (by kernel_rfl))
  f30 := ⟨Tryd.f96.name, by decide, Tryd.func96.trans (congrArg some (by kernel_rfl))⟩
  f31 := Tryd.func97.trans (congrArg some (by kernel_rfl))
  f32 := Tryd.func98.trans (congrArg some (by kernel_rfl))
  f33 := ⟨Tryd.f99.name, by decide, Tryd.func99.trans (congrArg some (by kernel_rfl))⟩
  f34 := ⟨Tryd.f100.name, by decide, Tryd.func100.trans (congrArg some (by kernel_rfl))⟩
  f35 := ⟨Tryd.f101.name, by decide, Tryd.func101.trans (congrArg some (by kernel_rfl))⟩
  f40 := ⟨Tryd.f102.name, by decide, Tryd.func102.trans (congrArg some (by kernel_rfl))⟩
  t0 := Tryd.underlying0
  a0 := Tryd.isAgg0
  z0 := Tryd.sizeOf0
  v0 := Tryd.zeroValue0
  t3 := Tryd.underlying3
  a3 := Tryd.isAgg3
  z3 := Tryd.sizeOf3
  v3 := Tryd.zeroValue3
  t4 := Tryd.underlying4
  a4 := Tryd.isAgg4
  z4 := Tryd.sizeOf4
  v4 := Tryd.zeroValue4
  t5 := Tryd.underlying5
  a5 := Tryd.isAgg5
  z5 := Tryd.sizeOf5
  v5 := Tryd.zeroValue5
  t9 := Tryd.underlying9
  a9 := Tryd.isAgg9
  z9 := Tryd.sizeOf9
  v9 := Tryd.zeroValue9
  t22 := Tryd.underlying44
  a22 := Tryd.isAgg44
  z22 := Tryd.sizeOf44
  v22 := Tryd.zeroValue44
  t23 := Tryd.underlying44
  a23 := Tryd.isAgg44
  z23 := Tryd.sizeOf44
  v23 := Tryd.zeroValue44
  t25 := Tryd.underlying3
  a25 := Tryd.isAgg3
  z25 := Tryd.sizeOf3
  v25 := Tryd.zeroValue3
  t32 := Tryd.underlying85
  a32 := Tryd.isAgg85
  z32 := Tryd.sizeOf85
  v32 := Tryd.zeroValue85
  t35 := Tryd.underlying148
  a35 := Tryd.isAgg148
  z35 := Tryd.sizeOf148
  v35 := Tryd.zeroValue148
  t36 := Tryd.underlying149
  a36 := Tryd.isAgg149
  z36 := Tryd.sizeOf149
  v36 := Tryd.zeroValue149
  t41 := Tryd.underlying154
  a41 := Tryd.isAgg154
  z41 := Tryd.sizeOf154
  v41 := Tryd.zeroValue154
  t44 := Tryd.underlying109
  a44 := Tryd.isAgg109
  z44 := Tryd.sizeOf109
  v44 := Tryd.zeroValue109
  t46 := Tryd.underlying112
  a46 := Tryd.isAgg112
  z46 := Tryd.sizeOf112
  v46 := Tryd.zeroValue112
  t53 := Tryd.underlying158
  a53 := Tryd.isAgg158
  z53 := Tryd.sizeOf158
  v53 := Tryd.zeroValue158
  t57 := Tryd.underlying162
  a57 := Tryd.isAgg162
  z57 := Tryd.sizeOf162
  v57 := Tryd.zeroValue162
  t63 := Tryd.underlying164
  a63 := Tryd.isAgg164
  z63 := Tryd.sizeOf164
  v63 := Tryd.zeroValue164
  t64 := Tryd.underlying165
  a64 := Tryd.isAgg165
  z64 := Tryd.sizeOf165
  v64 := Tryd.zeroValue165 }
end Go.Proofs.YtipbkdlekanlmaaDoor
/- Contracts of the program's disk: Pending, Worn (sorted keys of a map, by the shelf's contracts). -/
namespace Go.Proofs.YtipbkdlekanlmaaDoor
open Go.RowKit Go.Lab Go.Disk Go.Maps Go.Sort Go.Shelf
theorem sorts_in (m : Nat) : AnyZI.SortsIn Tryd.prog shSortedA_ren Fence.wide m :=
  ⟨fun blk off cap ss W hH hblk hsz => callsIn_wide.2 (AnyM.slices_Sort_int shSortA blk off cap ss W hH hblk hsz), fun p cap W => callsIn_wide.2 (AnyM.slices_Sort_int_none shSortA p cap W)⟩
theorem keysA_any (mb : Option Nat) (W : World) : CallsIn Fence.wide 5 Tryd.prog 75 #[.map mb] W fun e w' => e = .returned (.func (.func 80) #[] #[.pointer (some ⟨W.heap.size, 0, none⟩)]) ∧ w' = W.alloc (.cells #[.map mb] 69) :=
  AnyZI.keys_in shKeysA Fence.wide 5 trivial rfl mb W
theorem sortedA_any (b nn : Nat) (D0 : DataW Unit) (R : Value → Option (DataW Unit × List MemPlace)) (w : World) (hown : w.ownsMap Tryd.prog 3 R b nn D0) (hmax : size D0 ≤ maxLen) (hbytes : size D0 * 8 ≤ 140737488355328) :
    CallsIn Fence.wide 5 Tryd.prog 74 #[.func (.func 80) #[] #[.pointer (some ⟨w.heap.size, 0, none⟩)]] (w.alloc (.cells #[.map (some b)] 69)) fun e w' => ∃ (v : Value) (ss : List Int), e = .returned v ∧ ss.Perm (intKeys D0) ∧
      w'.ownsRow (w.alloc (.cells #[.map (some b)] 69)).heap.size 3 1 v ss.length ((ss.mergeSort (fun x y => decide (x ≤ y))).map encZ) ∧ (v = .slice none 0 0 ↔ ss = []) ∧ Below (w.alloc (.cells #[.map (some b)] 69)).heap.size (w.alloc (.cells #[.map (some b)] 69)) w' := by
  have hbl := hown.lt
  have hseq : SeqGives Fence.wide 2 Tryd.prog 80 #[.pointer (some ⟨w.heap.size, 0, none⟩)] encZ (fun ss => ss.Perm (intKeys D0)) (size D0) (w.alloc (.cells #[.map (some b)] 69)) :=
    AnyZI.keys_gives (ρ := shKeysA_ren) { shKeysA with } Fence.wide _ trivial rfl (by omega) w.heap.size b nn D0 _ (by simp) (by simp) (by
      obtain ⟨es, clock, hb, Ft, hs, hD⟩ := hown
      exact ⟨es, clock, (Below.heap_alloc _ _ b hbl).trans hb, Ft, hs, hD⟩)
  exact AnyZI.sorted_in shSortedA Fence.wide 5 trivial trivial trivial trivial rfl (by omega) (sorts_in _) (enters_of Tryd.func79 (by kernel_rfl) rfl) 80 #[.pointer (some ⟨w.heap.size, 0, none⟩)] trivial (enters_of Tryd.func80 (by kernel_rfl) rfl) _ _ hmax hbytes _ hseq
theorem own_baseD {w : World} {base base' : Nat} {e : TypeId} {k n : Nat} {v : Value} {xs : List Value} (h : w.ownsRow base e k v n xs) (hb : base' ≤ base) : w.ownsRow base' e k v n xs := by
  refine ⟨h.1, ?_⟩
  rcases h.2 with h2 | ⟨g, cap, cur, hv, hg, r⟩
  · exact .inl h2
  · exact .inr ⟨g, cap, cur, hv, Nat.le_trans hb hg, r⟩
set_option maxHeartbeats 1000000 in
theorem pending_any (p : Value) (D : Dk) (w : World) (lo hi : Nat) (h : DiskAt w lo hi p D) :
    Calls Tryd.prog 68 #[p] w fun e w' => ∃ v, e = .returned v ∧ w'.ownsRow w.heap.size 3 1 v (pendZ D.s 0).length (intsC (pendZ D.s 0)) ∧ Below w.heap.size w w' := by
  obtain ⟨b, g, mb, wb, c, l, P, W, rfl, h⟩ := h
  have c1 := h.c1
  have hps := pend_size h.pend h.pv
  have hn4 := h.ok.1.2.1
  have hperm := keys_perm_of h.pend (pendZ_sorted D.s 0) (pend_mem h.pv)
  have HC := hidep (sortedA_any mb _ P _ w h.pend (by unfold maxLen; omega) (by omega))
  have HP := hidep hperm
  clear hperm h hps hn4
  refine (callsIn_wide (n := 6)).1 ?_
  have hfK : Fence.wide.fn 75 := trivial
  have hfS : Fence.wide.fn 74 := trivial
  refine callsIn_of_wp Tryd.func68 rfl trivial ?_ rfl
  simp only [Tryd.ntmps68, List.size_toArray, List.length_cons, List.length_nil, Nat.reduceAdd, Nat.reduceSub, Array.replicate_succ, Array.replicate_zero, List.push_toArray, List.append_toArray, List.nil_append, List.cons_append]
  gi_wp2_with (first
    | (gi_at_call 75; refine (keysA_any _ _).mono ?_; rintro e w' ⟨rfl, rfl⟩)
    | (gi_at_call 74; refine HC.out.mono ?_; rintro e w' ⟨v, ss, rfl, hS, hrow, hnil, hb⟩))
  go_ret
  have e1 : ss.mergeSort (fun x y => decide (x ≤ y)) = pendZ D.s 0 := sorted_of_perm (pendZ_sorted D.s 0) (hS.trans HP.out.symm)
  have e2 : ss.length = (pendZ D.s 0).length := (hS.trans HP.out.symm).length_eq
  rw [e1, e2] at hrow
  exact ⟨v, rfl, own_baseD hrow (by simp), ((Below.refl _ w).alloc (Nat.le_refl _) _).trans (hb.mono (by simp))⟩
end Go.Proofs.YtipbkdlekanlmaaDoor
/- Contracts of the reference: the image, the pending and the worn sectors. -/
namespace Go.Proofs.YtipbkdlekanlmaaDoor
open Go.RowKit Go.Lab Go.Disk
theorem strsC_one (l : List ByteArray) : ∀ u ∈ strsC l, u.oneCell' = true := by
  intro u hu
  obtain ⟨x, _, rfl⟩ := List.mem_map.1 hu
  rfl
theorem pendZ_snoc : ∀ (S : List Sec) (o : Nat) (x : Sec), pendZ (S ++ [x]) o = pendZ S o ++ (if x.dirty = true then [((o + S.length : Nat) : Int)] else [])
  | [], o, x => by simp [pendZ]
  | y :: r, o, x => by
    rw [List.cons_append, pendZ, pendZ_snoc r (o + 1) x, pendZ]
    have e : o + 1 + r.length = o + (y :: r).length := by simp; omega
    rw [e]
    split <;> simp
theorem pendZ_take {S : List Sec} {j : Nat} (h : j < S.length) : pendZ (S.take (j + 1)) 0 = pendZ (S.take j) 0 ++ (if S[j].dirty = true then [(j : Int)] else []) := by
  rw [List.take_succ_eq_append_getElem h, pendZ_snoc]
  have e : 0 + (S.take j).length = j := by rw [List.length_take]; omega
  rw [e]
theorem wornZ_take {S : List Sec} {j : Nat} (h : j < S.length) : wornZ (S.take (j + 1)) 0 = wornZ (S.take j) 0 ++ (if S[j].worn = true then [(j : Int)] else []) := by
  rw [wornZ_flip, wornZ_flip, List.map_take, List.map_take, pendZ_take (by simpa using h)]
  simp [Disk.flip]
end Go.Proofs.YtipbkdlekanlmaaDoor
/- Words: a string's bytes in a row of their own. Contract of the reference's disk: Rot. -/
namespace Go.Proofs.YtipbkdlekanlmaaDoor
open Go.RowKit Go.Lab Go.Disk
/-- Block g is a row that begins with the bytes of s; they may be written. -/
structure BytesIn (w : World) (g : Nat) (xs : List Int) : Prop where
  lt : g < w.heap.size
  cell : ∀ j, j < xs.length → w.cell? ⟨g, j, none⟩ = some (.int .u8 (xs.getD j 0))
  free : ∀ j, j < xs.length → w.frozen? ⟨g, j, none⟩ = false
theorem nums_getD (s : ByteArray) (j : Nat) : (nums s).getD j 0 = ((s.data.toList.getD j 0).toNat : Int) := by
  unfold nums
  rw [List.getD_eq_getElem?_getD, List.getD_eq_getElem?_getD, List.getElem?_map]
  cases s.data.toList[j]? <;> rfl
theorem bytesRow_get (s : ByteArray) (cap j : Nat) (hj : j < s.size) : (bytesRow s cap)[j]? = some (.int .u8 ((nums s).getD j 0)) := by
  rw [bytesRow_at s cap j hj, nums_getD]
  have : s.data.toList[j]? = some s.data[j] := by rw [Array.getElem?_toList]; exact Array.getElem?_eq_getElem hj
  rw [List.getD_eq_getElem?_getD, this]; rfl
theorem bytesRow_size (s : ByteArray) (cap : Nat) : s.size ≤ (bytesRow s cap).size := by
  unfold bytesRow
  rw [Array.size_append, Array.size_map]
  exact Nat.le_add_right _ _
/-- '[]byte(s)'. -/
theorem run_bytes_new {P : Program} {ts tb tu : TypeId} (h1 : P.underlying ts = some .string) (h2 : P.underlying tb = some (.slice tu)) (h3 : P.underlying tu = some (.int .u8)) (w : World) (s : ByteArray) : ∃ c w', (convert ts tb (.string s)).run P w = .ok (.slice (some ⟨w.heap.size, 0, none⟩) s.size c) w' ∧ s.size ≤ c ∧ Below w.heap.size w w' ∧ BytesIn w' w.heap.size (nums s) ∧ w'.heap.size = w.heap.size + 1 := by
  refine ⟨_, _, run_bytes_of_string w ts tb tu s h1 h2 h3, grownCap_ge _ _ _ _, ?_, ?_, ?_⟩
  · exact (Below.refl _ _).drew.alloc (Nat.le_refl _) _
  · refine ⟨by simp, fun j hj => ?_, fun j hj => ?_⟩
    · rw [nums_len] at hj
      have := World.cell?_alloc_mark w.drew (bytesRow s (grownCap w s.size 0 tu)) tu ((bytesRow s (grownCap w s.size 0 tu)).size, (bytesRow s (grownCap w s.size 0 tu)).size + 1) j
      rw [bytesRow_get s _ j hj] at this
      exact this
    · rw [nums_len] at hj
      have h2 := bytesRow_size s (grownCap w s.size 0 tu)
      have := World.frozen?_alloc_mark w.drew (bytesRow s (grownCap w s.size 0 tu)) tu (bytesRow s (grownCap w s.size 0 tu)).size ((bytesRow s (grownCap w s.size 0 tu)).size + 1) j
      rw [decide_eq_false (by omega)] at this
      exact this
  · simp
/-- 'string(b)' of such a row. -/
theorem run_str_of {w : World} {g : Nat} {xs : List Int} (h : BytesIn w g xs) (cap n : Nat) (hn : xs.length = n) : (convert 36 9 (.slice (some ⟨g, 0, none⟩) n cap)).run Tryd.prog w = .ok (.string (strOfNums xs)) w :=
  run_convert_bytes_arg w 36 5 Tryd.underlying36 Tryd.underlying5 g 0 n cap xs hn (fun i hi => by rw [Nat.zero_add]; exact h.cell i (by omega)) 9 Tryd.underlying9
theorem BytesIn.drew {w : World} {g : Nat} {xs : List Int} (h : BytesIn w g xs) : BytesIn w.drew g xs := ⟨h.lt, h.cell, h.free⟩
theorem BytesIn.set {w : World} {g : Nat} {xs : List Int} (h : BytesIn w g xs) {i : Nat} (hi : i < xs.length) (y : Int) : BytesIn (w.setCell ⟨g, i, none⟩ (.int .u8 y)) g (xs.set i y) := by
  refine ⟨by simp only [World.setCell, Array.size_modify]; exact h.lt, fun j hj => ?_, fun j hj => ?_⟩
  · rw [List.length_set] at hj
    by_cases e : j = i
    · subst e
      rw [World.cell?_setCell_same _ _ _ (h.cell j hj)]
      simp [hj]
    · rw [World.cell?_setCell_other _ _ _ _ (by intro q; injection q with _ q _; exact e q.symm), h.cell j hj]
      congr 2
      rw [List.getD_eq_getElem?_getD, List.getD_eq_getElem?_getD, List.getElem?_set_ne (fun q => e q.symm)]
  · rw [List.length_set] at hj
    rw [World.frozen?_setCell]
    exact h.free j hj
theorem wpList_conv_new {P : Program} {ts tb tu : TypeId} (h1 : P.underlying ts = some .string) (h2 : P.underlying tb = some (.slice tu)) (h3 : P.underlying tu = some (.int .u8)) (w : World) {ops : Array Oper} {rest : List Oper} {o : Oper} {a : Act} {Q : Exit → Act → World → Prop} (hgd : o.guard = none) (x : Operand) (ho : o.op = .convert ts tb x) (s : ByteArray) (hx : a.eval x = .string s)
    (h : ∀ c w', s.size ≤ c → Below w.heap.size w w' → BytesIn w' w.heap.size (nums s) → w'.heap.size = w.heap.size + 1 → wpList P ops Q rest (a.put o.dst (.slice (some ⟨w.heap.size, 0, none⟩) s.size c)) w') : wpList P ops Q (o :: rest) a w := by
  obtain ⟨c, w', hrun, g1, g2, g3, g4⟩ := run_bytes_new h1 h2 h3 w s
  refine wpList_plain hgd fun K hK => ?_
  unfold Oper.wp execOp
  simp only [ho, hx, hrun, Sem.run_bind, Sem.run_pure, Result.andThen_ok]
  exact hK _ _ (h c w' g1 g2 g3 g4)
theorem rotB_nums {s : ByteArray} {m : Nat} {y : Int} (hy : y = ((rotN (s.data.toList.getD (m / 8) 0).toNat (m % 8) : Nat) : Int)) : strOfNums ((nums s).set (m / 8) y) = rotB s m := by
  unfold strOfNums rotB nums
  rw [List.map_set, List.map_map]
  have : (fun n : Int => UInt8.ofNat n.toNat) ∘ (fun b : UInt8 => (b.toNat : Int)) = id := by funext b; simp
  rw [this, List.map_id, hy, Int.toNat_natCast]
theorem xor_pow (xb m : Nat) (h : xb < 256) : bits .xor .u8 (xb : Int) (2 ^ (m % 8) % 256) = ((rotN xb (m % 8) : Nat) : Int) := by
  have h2 : 2 ^ (m % 8) < 256 := Nat.pow_lt_pow_right (by omega) (by omega : m % 8 < 8)
  have e : ((2 : Int) ^ (m % 8) % 256) = ((2 ^ (m % 8) : Nat) : Int) := by
    have e0 : (2 : Int) ^ (m % 8) = ((2 ^ (m % 8) : Nat) : Int) := (Int.natCast_pow 2 (m % 8)).symm
    have key : ∀ q : Nat, q < 256 → ((q : Int) % 256) = (q : Int) := fun q hq => by omega
    rw [e0]
    exact key _ h2
  rw [e, u8_xor_nat xb _ h h2]
  rfl
theorem rotOk_cases {D : Dk} {i bit : Int} (h : rotOk D i bit = false) : D.isIn i = false ∨ (D.isIn i = true ∧ bit < 0) ∨ (D.isIn i = true ∧ 0 ≤ bit ∧ 511 < bit) := by
  unfold rotOk at h
  cases hi : D.isIn i
  · exact .inl rfl
  · rw [hi] at h
    simp only [Bool.true_and, Bool.and_eq_false_iff, decide_eq_false_iff_not] at h
    right
    rcases h with h | h
    · exact .inl ⟨rfl, by omega⟩
    · by_cases h0 : bit < 0
      · exact .inl ⟨rfl, h0⟩
      · exact .inr ⟨rfl, by omega, by omega⟩
theorem rotOk_true {D : Dk} {i bit : Int} (h : rotOk D i bit = true) : D.isIn i = true ∧ 0 ≤ bit ∧ bit ≤ 511 := by
  unfold rotOk at h
  simp only [Bool.and_eq_true, decide_eq_true_eq] at h
  exact ⟨h.1, h.2.1, h.2.2⟩
end Go.Proofs.YtipbkdlekanlmaaDoor
/- Contracts of the reference: Clone, New, and the text of an operation. -/
namespace Go.Proofs.YtipbkdlekanlmaaDoor
open Go.RowKit Go.Lab Go.Disk
theorem RowAt.rd {w : World} {g : Nat} {t : TypeId} {cs : List Value} (h : RowAt w g t cs) {n k c : Nat} (hl : cs.length = n * k) (hc : n ≤ c) (hm : c ≤ maxLen) : Rd w (· = t) k (.slice (some ⟨g, 0, none⟩) n c) n cs := by
  obtain ⟨cur, hb, hcur⟩ := h
  refine ⟨hl, some ⟨g, 0, none⟩, c, rfl, hc, hm, (fun e => by cases e), fun ad e _ => ?_⟩
  injection e with e
  subst e
  exact ⟨rfl, cur, t, (0, 0), rfl, hb, fun j u hu => by rw [Nat.zero_add]; exact hcur j u hu⟩
theorem secsC_one (S : List Sec) : ∀ u ∈ secsC S, u.oneCell' = true := by
  intro u hu
  obtain ⟨x, _, hx⟩ := List.mem_flatMap.1 hu
  simp [secC] at hx
  rcases hx with rfl | rfl | rfl | rfl <;> rfl
theorem RowAt.new (w : World) (cs : Array Value) (t : TypeId) : RowAt (w.alloc (.cells cs t)) w.heap.size t cs.toList := ⟨cs, heap_alloc_new w _, fun j u hu => by simpa using hu⟩
def textF : Nat → ByteArray → ByteArray
  | 0, s => s
  | f + 1, s => if 0 < s.size ∧ s.size < 64 then textF f (s ++ s.extract (s.size - 1) s.size) else s
def textZ (s : ByteArray) : ByteArray := textF 64 s
theorem textF_done (f : Nat) (s : ByteArray) (h : ¬ (0 < s.size ∧ s.size < 64)) : textF f s = s := by
  cases f with
  | zero => rfl
  | succ f => rw [textF, if_neg h]
theorem textF_le : ∀ (f : Nat) (s : ByteArray), s.size ≤ maxLen → (textF f s).size ≤ maxLen
  | 0, s, h => h
  | f + 1, s, h => by
    rw [textF]
    split
    · refine textF_le f _ ?_
      rw [ByteArray.size_append, extract_size]
      unfold maxLen
      omega
    · exact h
theorem textZ_le {s : ByteArray} (h : s.size ≤ maxLen) : (textZ s).size ≤ maxLen := textF_le 64 s h
end Go.Proofs.YtipbkdlekanlmaaDoor
/- Contract of the reference: New. -/
namespace Go.Proofs.YtipbkdlekanlmaaDoor
open Go.RowKit Go.Lab Go.Disk
def zrow : Array Value := madeCells #[.int .u8 0] 64
theorem mk_bytesD (W : World) : (Instr.makeSlice 36 (.int .i64 64) (.int .i64 64)).run Tryd.prog W = .ok (.slice (some ⟨W.heap.size, 0, none⟩) 64 64) (W.alloc (.cells zrow 5)) :=
  run_make_row' 36 5 (.int .u8 0) 1 Tryd.underlying36 (by kernel_rfl) rfl .i64 .i64 64 (by omega) (by omega) W
theorem zrow_list : zrow.toList = List.replicate 64 (.int .u8 0) := toList_madeCells_one _ _
theorem zrow_get (j : Nat) (hj : j < 64) : zrow[j]? = some (.int .u8 0) := by
  rw [← Array.getElem?_toList, zrow_list, List.getElem?_replicate, if_pos hj]
theorem zrow_nums : nums zeros = List.replicate 64 0 := by decide
theorem getD_rep (k j : Nat) : (List.replicate k (0 : Int)).getD j 0 = 0 := by
  rw [List.getD_eq_getElem?_getD, List.getElem?_replicate]
  split <;> rfl
theorem zrow_in {W W' : World} (hb : W'.heap[W.heap.size]? = some (.cells zrow 5 (0, 0))) : BytesIn W' W.heap.size (nums zeros) := by
  refine ⟨lt_of_block hb, fun j hj => ?_, fun j _ => by simp [World.frozen?, hb]⟩
  rw [zrow_nums] at hj ⊢
  have hj2 : j < 64 := by simpa using hj
  simp only [World.cell?, hb]
  rw [getD_rep]
  simpa using zrow_get j hj2
theorem cv_zrow (W W' : World) (hb : W'.heap[W.heap.size]? = some (.cells zrow 5 (0, 0))) : (convert 36 9 (.slice (some ⟨W.heap.size, 0, none⟩) 64 64)).run Tryd.prog W' = .ok (.string zeros) W' := by
  have := run_str_of (zrow_in hb) 64 64 (by rw [nums_len]; exact zeros_size)
  rw [str_nums] at this
  exact this
theorem three_cell {w : World} {b : Nat} {x y z : Value} {t : TypeId} (h : w.heap[b]? = some (.cells #[x, y, z] t (0, 0))) :
    w.cell? ⟨b, 0, none⟩ = some x ∧ w.cell? ⟨b, 1, none⟩ = some y ∧ w.cell? ⟨b, 2, none⟩ = some z := by simp [World.cell?, h]
theorem three_free {w : World} {b o : Nat} {x y z : Value} {t : TypeId} (h : w.heap[b]? = some (.cells #[x, y, z] t (0, 0))) : w.frozen? ⟨b, o, none⟩ = false := by simp [World.frozen?, h]
theorem three_setCell0 {w : World} {b : Nat} {x y z u : Value} {t : TypeId} (h : w.heap[b]? = some (.cells #[x, y, z] t (0, 0))) : (w.setCell ⟨b, 0, none⟩ u).heap[b]? = some (.cells #[u, y, z] t (0, 0)) := by
  rw [heap_setCell_same w b 0 _ t u h]
  rfl
theorem secsC_rep (j : Nat) : secsC (List.replicate (j + 1) secZ) = secsC (List.replicate j secZ) ++ [.string zeros, .string ⟨#[]⟩, .bool false, .bool false] := by
  rw [List.replicate_succ']
  unfold secsC
  rw [List.flatMap_append]
  rfl
end Go.Proofs.YtipbkdlekanlmaaDoor
/- Words: a block as a variable of its own. Contract of the program's disk: Read. -/
namespace Go.Proofs.YtipbkdlekanlmaaDoor
open Go.RowKit Go.Lab Go.Disk Go.Maps
section
variable {α : Type} {f : α → List Value} {c : Nat}
theorem chunkm_len : ∀ l : List α, (∀ a ∈ l, (f a).length = c) → (l.flatMap f).length = l.length * c
  | [], _ => by simp
  | a :: l, hf => by rw [List.flatMap_cons, List.length_append, hf a (by simp), chunkm_len l (fun b hb => hf b (by simp [hb])), List.length_cons, Nat.succ_mul]; omega
theorem chunkm_get : ∀ (l : List α) (_ : ∀ a ∈ l, (f a).length = c) {k j : Nat} (hk : k < l.length) (_ : j < c), (l.flatMap f)[k * c + j]? = (f l[k])[j]?
  | a :: l, hf, 0, j, _, hj => by
    rw [List.flatMap_cons, Nat.zero_mul, Nat.zero_add, List.getElem?_append_left (by rw [hf a (by simp)]; exact hj)]
    rfl
  | a :: l, hf, k + 1, j, hk, hj => by
    have ha := hf a (by simp)
    have e : (k + 1) * c + j = (f a).length + (k * c + j) := by rw [ha, Nat.succ_mul]; omega
    rw [List.flatMap_cons, e, List.getElem?_append_right (by omega), Nat.add_sub_cancel_left, chunkm_get l (fun b hb => hf b (by simp [hb])) (by simpa using hk) hj]
    rfl
theorem chunkm_spl : ∀ (l : List α) (_ : ∀ a ∈ l, (f a).length = c) (k j : Nat) (vs : List Value) (x : α) (hk : k < l.length), j + vs.length ≤ c → f x = spl (f l[k]) j vs → spl (l.flatMap f) (k * c + j) vs = (l.set k x).flatMap f
  | a :: l, hf, 0, j, vs, x, _, hj, hx => by
    simp only [List.getElem_cons_zero] at hx
    rw [List.flatMap_cons, Nat.zero_mul, Nat.zero_add, spl_append_low _ _ _ _ (by rw [hf a (by simp)]; exact hj), List.set_cons_zero, List.flatMap_cons, hx]
  | a :: l, hf, k + 1, j, vs, x, hk, hj, hx => by
    have e : (k + 1) * c + j = (f a).length + (k * c + j) := by rw [hf a (by simp), Nat.succ_mul]; omega
    rw [List.flatMap_cons, e, spl_append_high, List.set_cons_succ, List.flatMap_cons, chunkm_spl l (fun b hb => hf b (by simp [hb])) k j vs x (by simpa using hk) hj (by simpa using hx)]
end
theorem blocks_each {S : List Sec} (h : SOk S) : ∀ x ∈ S, (cellsB x.text).length = 64 := fun x hx => by rw [cellsB_len]; exact (h.2.2 x hx).1
theorem blocksC_len {S : List Sec} (h : SOk S) : (blocksC S).length = S.length * 64 := chunkm_len S (blocks_each h)
theorem blocksC_get {S : List Sec} (h : SOk S) {k j : Nat} (hk : k < S.length) (hj : j < 64) : (blocksC S)[k * 64 + j]? = some (.int .u8 ((nums (atS S k).text).getD j 0)) := by
  unfold blocksC
  rw [chunkm_get (f := fun x : Sec => cellsB x.text) S (blocks_each h) hk hj, atS_get hk]
  exact cellsB_get _ (by rw [(h.2.2 _ (List.getElem_mem hk)).1]; exact hj)
/-- A variable of a type that takes a row, made anew. -/
theorem wpList_alloc_rowD {P : Program} {t : TypeId} {Z : Array Value} (hz : ∀ w, (zeroValue t).run P w = .ok (.agg Z) w) (w : World) {ops : Array Oper} {rest : List Oper} {o : Oper} {a : Act} {Q : Exit → Act → World → Prop} (hgd : o.guard = none) (ho : o.op = .alloc t)
    (h : wpList P ops Q rest (a.put o.dst (.pointer (some ⟨w.heap.size, 0, none⟩))) (w.alloc (.cells Z t))) : wpList P ops Q (o :: rest) a w := by
  refine wpList_plain hgd fun K hK => ?_
  unfold Oper.wp execOp
  simp [ho, Instr.alloc, hz, newVar, newRow, Value.cells, Result.andThen]
  exact hK _ _ h
/-- A whole row into the block that was made last. -/
theorem wpList_store_lastD {P : Program} {t : TypeId} {c c' : Array Value} (w : World) (hi : (P.info? t).map (·.size) = some c'.size) (hsz : c.size = c'.size) (h1 : c'.all (·.oneCell') = true) {ops : Array Oper} {rest : List Oper} {o : Oper} {a : Act} {Q : Exit → Act → World → Prop} (hgd : o.guard = none) (x y : Operand) (ho : o.op = .store t x y)
    (hx : a.eval x = .pointer (some ⟨w.heap.size, 0, none⟩)) (hy : a.eval y = .agg c') (h : wpList P ops Q rest (a.put o.dst undef) (w.alloc (.cells c' t))) : wpList P ops Q (o :: rest) a (w.alloc (.cells c t)) := by
  refine wpList_plain hgd fun K hK => ?_
  unfold Oper.wp execOp
  simp only [ho, hx, hy, Sem.run_bind, Sem.run_pure, run_storeAt_new w t c c' hi hsz h1, Result.andThen_ok]
  exact hK _ _ h
theorem info_block : (Tryd.prog.info? 98).map (·.size) = some 64 := by kernel_rfl
theorem cellsB_all (s : ByteArray) : (cellsB s).toArray.all (·.oneCell') = true := all_oneCell_toArray (cellsB_one s)
theorem cellsB_size (s : ByteArray) : (cellsB s).toArray.size = s.size := by rw [List.size_toArray, cellsB_len]
theorem bytes_of_cells {w : World} {g : Nat} {s : ByteArray} {cs : Array Value} {t : TypeId} (hb : w.heap[g]? = some (.cells cs t (0, 0))) (hc : cs = (cellsB s).toArray) : BytesIn w g (nums s) := by
  subst hc
  refine ⟨lt_of_block hb, fun j hj => ?_, fun j _ => by simp [World.frozen?, hb]⟩
  rw [nums_len] at hj
  simp only [World.cell?, hb]
  simpa using cellsB_get s hj
theorem cv_block (w : World) (s : ByteArray) (hs : s.size = 64) : (convert 36 9 (.slice (some ⟨w.heap.size, 0, none⟩) 64 64)).run Tryd.prog (w.alloc (.cells (cellsB s).toArray 98)) = .ok (.string s) (w.alloc (.cells (cellsB s).toArray 98)) := by
  have := run_str_of (bytes_of_cells (heap_alloc_new w (.cells (cellsB s).toArray 98)) rfl) 64 64 (by rw [nums_len]; exact hs)
  rw [str_nums] at this
  exact this
/-- 'string(d.blocks[k][:])' -/
theorem cv_sector {w : World} {g : Nat} {S : List Sec} (hr : RowAt w g 98 (blocksC S)) (hok : SOk S) {k : Nat} (hk : k < S.length) (c : Nat) : (convert 36 9 (.slice (some ⟨g, k * 64, none⟩) 64 c)).run Tryd.prog w = .ok (.string (atS S k).text) w := by
  have hs := (hok.at hk).1
  have := run_convert_bytes_arg w 36 5 Tryd.underlying36 Tryd.underlying5 g (k * 64) 64 c (nums (atS S k).text) (by rw [nums_len]; exact hs) (fun i hi => by
    exact hr.cell (blocksC_get hok hk hi)) 9 Tryd.underlying9
  rw [str_nums] at this
  exact this
set_option maxHeartbeats 1000000 in
set_option maxRecDepth 100000 in
theorem read_any (p : Value) (D : Dk) (i : Int) (w : World) (lo hi : Nat) (h : DiskAt w lo hi p D) (hi64 : -9223372036854775808 ≤ i ∧ i ≤ 9223372036854775807) :
    Calls Tryd.prog 33 #[p, .int .i64 i] w fun e w' => e = .returned (.tuple #[.string (readZ D i).1, .int .i64 (readZ D i).2]) ∧ Below w.heap.size w w' := by
  have HC := hidep (fun W hW => check_any p D i W lo hi (hW : DiskAt W lo hi p D))
  obtain ⟨b, g, mb, wb, c, l, P, W, rfl, h⟩ := h
  have c0 := h.c0
  have c1 := h.c1
  have H : Hid (DiskAt w lo hi (.pointer (some ⟨b, 0, none⟩)) D) := hidep ⟨b, g, mb, wb, c, l, P, W, rfl, h⟩
  cases hoff : D.off with
  | true =>
    have HZ := hidep (readZ_off i hoff)
    have HK := hidep (checkZ_off i hoff)
    clear hoff h
    go_enter Tryd.func33, Tryd.ntmps33
    go_wp2_with (go_at_call 51; refine (HC.out _ H.out).mono ?_; rintro e w' ⟨rfl, rfl⟩; rw [HK.out])
    go_ret2
    exact ⟨ret_two HZ.out.symm, Below.refl _ _⟩
  | false =>
    cases hin : D.isIn i with
    | false =>
      have HZ := hidep (readZ_out hoff hin)
      have HK := hidep (checkZ_out hoff hin)
      clear hoff hin h
      go_enter Tryd.func33, Tryd.ntmps33
      go_wp2_with (go_at_call 51; refine (HC.out _ H.out).mono ?_; rintro e w' ⟨rfl, rfl⟩; rw [HK.out])
      go_ret2
      exact ⟨ret_two HZ.out.symm, Below.refl _ _⟩
    | true =>
      have HK := hidep (checkZ_in hoff hin)
      obtain ⟨h0, hk⟩ := isIn_lt hin
      obtain ⟨k, rfl⟩ : ∃ k : Nat, i = (k : Int) := ⟨i.toNat, by omega⟩
      rw [Int.toNat_natCast] at hk
      clear hin h0
      have hlook := look_pend h.pend h.pv (i64ok_mk hi64)
      have hps := pendOr_size h.ok.1 (k : Int)
      have hpa : (pendAt D.s (k : Int)).isSome = (atS D.s k).dirty := by
        unfold pendAt
        rw [Int.toNat_natCast]
        cases hd : (atS D.s k).dirty <;> simp [hk]
      have hn4 := h.ok.1.2.1
      have hbl := h.top.lt
      have hgl := h.row.lt
      rw [hpa] at hlook
      have hzb := zero_block
      cases hd : (atS D.s k).dirty with
      | true =>
        have HZ := hidep (readZ_dirty hoff hk hd)
        rw [hd] at hlook
        have hpo : pendOr D.s (k : Int) = (atS D.s k).next := by
          unfold pendOr pendAt
          rw [Int.toNat_natCast, if_pos ⟨by omega, hk, hd⟩]; rfl
        rw [hpo] at hlook hps
        have hcv := cv_block w (atS D.s k).next hps
        have hall := cellsB_all (atS D.s k).next
        have hcs := cellsB_size (atS D.s k).next
        rw [hps] at hcs
        clear hoff h hpo hpa hd hps
        have hzs : (cellsB zeros).toArray.size = 64 := (cellsB_size zeros).trans zeros_size
        generalize (cellsB (atS D.s k).next).toArray = C at *
        generalize (cellsB zeros).toArray = Z at *
        have hst := run_storeCells_new (P := Tryd.prog) w 98 Z C (by rw [hcs]; exact info_block) (by rw [hcs, hzs]) hall
        clear hzs hall
        go_enter Tryd.func33, Tryd.ntmps33
        go_upto_region 4 with (go_at_call 51; refine (HC.out _ H.out).mono ?_; rintro e w' ⟨rfl, rfl⟩; rw [HK.out])
        go_wp2_with (first
          | (refine wpList_alloc_rowD (o := ⟨some 7, _, _, _, _, _⟩) hzb _ rfl rfl ?_)
          | fail)
        go_ret2
        exact ⟨ret_two HZ.out.symm, (Below.refl _ _).alloc (Nat.le_refl _) _⟩
      | false =>
        have HZ := hidep (readZ_clean hoff hk hd)
        rw [hd] at hlook
        have hall := cellsB_all (pendOr D.s (k : Int))
        have hcs := cellsB_size (pendOr D.s (k : Int))
        rw [hps] at hcs
        have hcv := cv_sector (w := w.alloc (.cells (cellsB (pendOr D.s (k : Int))).toArray 98)) (h.row.of_block (heap_alloc_old _ _ hgl)) h.ok.1 hk 64
        have hzs : (cellsB zeros).toArray.size = 64 := (cellsB_size zeros).trans zeros_size
        clear hoff h hpa hd hps
        generalize (cellsB (pendOr D.s (k : Int))).toArray = C at *
        generalize (cellsB zeros).toArray = Z at *
        have hst := run_storeCells_new (P := Tryd.prog) w 98 Z C (by rw [hcs]; exact info_block) (by rw [hcs, hzs]) hall
        clear hzs hall
        generalize D.s.length = n at *
        go_enter Tryd.func33, Tryd.ntmps33
        go_upto_region 4 with (go_at_call 51; refine (HC.out _ H.out).mono ?_; rintro e w' ⟨rfl, rfl⟩; rw [HK.out])
        go_wp2_with (first
          | (refine wpList_alloc_rowD (o := ⟨some 7, _, _, _, _, _⟩) hzb _ rfl rfl ?_)
          | fail)
        go_ret2
        exact ⟨ret_two HZ.out.symm, (Below.refl _ _).alloc (Nat.le_refl _) _⟩
end Go.Proofs.YtipbkdlekanlmaaDoor
/- Contracts of the reference's disk: Write, Wear, settle, Flush, Mount. -/
namespace Go.Proofs.YtipbkdlekanlmaaDoor
open Go.RowKit Go.Lab Go.Disk Go.Maps
theorem writeE_off {D : Dk} (i : Int) (s : ByteArray) (h : D.off = true) : writeE D i s = 25 ∧ writeD D i s = D := ⟨if_pos h, if_pos h⟩
theorem writeE_out {D : Dk} {i : Int} (s : ByteArray) (h : D.off = false) (hi : D.isIn i = false) : writeE D i s = 1 ∧ writeD D i s = D := by
  unfold writeE writeD
  simp [h, hi]
theorem writeE_size {D : Dk} {i : Int} {s : ByteArray} (h : D.off = false) (hs : s.size ≠ 64) : writeE D i s = 1 ∧ writeD D i s = D := by
  unfold writeE writeD
  cases D.isIn i <;> simp [h, hs]
theorem writeE_down {D : Dk} {i : Int} {s : ByteArray} (h : D.off = false) (hi : D.isIn i = true) (hs : s.size = 64) (hl : D.left = 0) : writeE D i s = 25 ∧ writeD D i s = stepD D := by
  unfold writeE writeD
  simp [h, hi, hs, stepE_0 hl]
theorem writeE_ok {D : Dk} {k : Nat} {s : ByteArray} (h : D.off = false) (hk : k < D.s.length) (hs : s.size = 64) (hl : D.left ≠ 0) : writeE D (k : Int) s = 0 ∧ writeD D (k : Int) s = { stepD D with s := writeS D.s k s } := by
  unfold writeE writeD
  simp [h, isIn_mk hk, hs, stepE_1 hl]
theorem ptr_inj {b b' : Nat} (h : (Value.pointer (some ⟨b, 0, none⟩)) = .pointer (some ⟨b', 0, none⟩)) : b = b' := by
  injection h with h
  injection h with h
  injection h with h _ _
end Go.Proofs.YtipbkdlekanlmaaDoor
