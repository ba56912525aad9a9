/- The library's functions, as the shelf's contracts ask it: written by the kit's lay-plain, names turned. -/
import Derived.Shelf.Strings.Repeat
import Derived.Ground.NamesProg
import Derived.Lib.Agree
import Derived.Test.YtipbkdlekanlmaaGreatDoorRows
import Derived.Test.YtipbkdlekanlmaaGreatDoorZr18
import Derived.Test.YtipbkdlekanlmaaGreatDoorZr28
import Derived.Test.YtipbkdlekanlmaaGreatDoorZr25
import Derived.Test.YtipbkdlekanlmaaGreatDoorZr26
import Derived.Test.YtipbkdlekanlmaaGreatDoorZr17
import Derived.Test.YtipbkdlekanlmaaGreatDoorZr20
import Derived.Test.YtipbkdlekanlmaaGreatDoorZr04
namespace Go.Proofs.YtipbkdlekanlmaaGreatDoor
open Go.Shelf
def shRepeat_ren : Go.Shelf.Ren := ⟨fun | 105 => 39 | 212 => 68 | 99 => 69 | 165 => 70 | 166 => 71 | 170 => 72 | 169 => 73 | 263 => 85 | 264 => 86 | 206 => 87 | 240 => 88 | 241 => 89 | 276 => 100 | 277 => 101 | n => n, fun | 9 => 9 | 3 => 3 | 4 => 4 | 20 => 20 | 0 => 0 | 46 => 47 | 109 => 110 | 5 => 5 | 72 => 115 | 76 => 118 | 51 => 137 | 146 => 138 | 53 => 140 | 148 => 141 | 70 => 113 | 37 => 81 | 75 => 117 | 127 => 143 | 164 => 155 | 80 => 120 | n => n, fun | n => n⟩
theorem shRepeat : Go.Proofs.Lays.n105 Tryz.prog shRepeat_ren := {
  mixed := by kernel_rfl
  f99 := Tryz.func69.trans (congrArg some (by kernel_rfl))
  f105 := Tryz.func39.trans (congrArg some (by kernel_rfl))
  f165 := Tryz.func70.trans (congrArg some (by kernel_rfl))
  f166 := Tryz.func71.trans (congrArg some (by kernel_rfl))
  f169 := Tryz.func73.trans (congrArg some (by kernel_rfl))
  f170 := Tryz.func72.trans (congrArg some (by kernel_rfl))
  f206 := Tryz.func87.trans (congrArg some (by kernel_rfl))
  f212 := Tryz.func68.trans (congrArg some (by kernel_rfl))
  f240 := Tryz.func88.trans (congrArg some (by kernel_rfl))
  f241 := Tryz.func89.trans (congrArg some (by kernel_rfl))
  f263 := Tryz.func85.trans (congrArg some (by kernel_rfl))
  f264 := Tryz.func86.trans (congrArg some (by kernel_rfl))
  f276 := Tryz.func100.trans (congrArg some (by kernel_rfl))
  f277 := Tryz.func101.trans (congrArg some (by kernel_rfl))
  t0 := Tryz.underlying0
  a0 := Tryz.isAgg0
  z0 := Tryz.sizeOf0
  v0 := Tryz.zeroValue0
  t3 := Tryz.underlying3
  a3 := Tryz.isAgg3
  z3 := Tryz.sizeOf3
  v3 := Tryz.zeroValue3
  t4 := Tryz.underlying4
  a4 := Tryz.isAgg4
  z4 := Tryz.sizeOf4
  v4 := Tryz.zeroValue4
  t5 := Tryz.underlying5
  a5 := Tryz.isAgg5
  z5 := Tryz.sizeOf5
  v5 := Tryz.zeroValue5
  t9 := Tryz.underlying9
  a9 := Tryz.isAgg9
  z9 := Tryz.sizeOf9
  v9 := Tryz.zeroValue9
  t20 := Tryz.underlying20
  a20 := Tryz.isAgg20
  z20 := Tryz.sizeOf20
  v20 := Tryz.zeroValue20
  t37 := Tryz.underlying81
  a37 := Tryz.isAgg81
  z37 := Tryz.sizeOf81
  v37 := Tryz.zeroValue81
  t46 := Tryz.underlying47
  a46 := Tryz.isAgg47
  z46 := Tryz.sizeOf47
  v46 := Tryz.zeroValue47
  t51 := Tryz.underlying137
  a51 := Tryz.isAgg137
  z51 := Tryz.sizeOf137
  v51 := Tryz.zeroValue137
  t53 := Tryz.underlying140
  a53 := Tryz.isAgg140
  z53 := Tryz.sizeOf140
  v53 := Tryz.zeroValue140
  t70 := Tryz.underlying113
  a70 := Tryz.isAgg113
  z70 := Tryz.sizeOf113
  v70 := Tryz.zeroValue113
  t72 := Tryz.underlying115
  a72 := Tryz.isAgg115
  z72 := Tryz.sizeOf115
  v72 := Tryz.zeroValue115
  t75 := Tryz.underlying117
  a75 := Tryz.isAgg117
  z75 := Tryz.sizeOf117
  v75 := Tryz.zeroValue117
  t76 := Tryz.underlying118
  a76 := Tryz.isAgg118
  z76 := Tryz.sizeOf118
  v76 := Tryz.zeroValue118
  t109 := Tryz.underlying110
  a109 := Tryz.isAgg110
  z109 := Tryz.sizeOf110
  v109 := Tryz.zeroValue110
  t127 := Tryz.underlying143
  a127 := Tryz.isAgg143
  z127 := Tryz.sizeOf143
  v127 := Tryz.zeroValue143
  t146 := Tryz.underlying138
  a146 := Tryz.isAgg138
  z146 := Tryz.sizeOf138
  v146 := Tryz.zeroValue138
  t148 := Tryz.underlying141
  a148 := Tryz.isAgg141
  z148 := Tryz.sizeOf141
  v148 := Tryz.zeroValue141
  t164 := Tryz.underlying155
  a164 := Tryz.isAgg155
  z164 := Tryz.sizeOf155
  v164 := Tryz.zeroValue155 }
end Go.Proofs.YtipbkdlekanlmaaGreatDoor
/- Journal, plain: the examples of the law. -/
namespace Go.Jn
open Go Go.Lab Go.Disk Go.Proofs.YtipbkdlekanlmaaGreatDoor
def exA : ByteArray := ⟨#[97]⟩
def exX : ByteArray := ⟨(List.replicate 50 120).toArray⟩
def ex1 : Int × Int × JZ × Dk := appendZ jz0 (newD 4) exA
def ex2 : Int × Int × JZ × Dk := appendZ ex1.2.2.1 ex1.2.2.2 exX
def exD : Dk := rotD ex2.2.2.2 1 70
def exK : JZ := openZ exD
def ex3 : Int × Int × JZ × Dk := appendZ exK exD ⟨#[98]⟩
def ex4 : Int × Int × JZ × Dk := appendZ ex3.2.2.1 ex3.2.2.2 ⟨#[99]⟩
theorem ex1_ok : (ex1.1, ex1.2.1) = (1, 0) := by kernel_rfl
theorem ex2_ok : (ex2.1, ex2.2.1, roomZ ex2.2.2.1 ex2.2.2.2) = (2, 0, 1) := by kernel_rfl
theorem exK_ok : exK.closed = false := by kernel_rfl
theorem ex3_ok : (ex3.1, ex3.2.1, ex3.2.2.1.nums, ex3.2.2.1.bad) = (3, 0, [1, 3], [1]) := by kernel_rfl
theorem ex3_damaged : damagedZ ex3.2.2.1 = [2] := by kernel_rfl
theorem ex3_texts : ex3.2.2.1.texts = [exA, ⟨#[98]⟩] := by kernel_rfl
theorem ex4_ok : ex4.2.1 = 24 := by kernel_rfl
theorem ex5_ok : packE 1 exA = 0 ∧ (packL 1 exA).length = 1 := ⟨by kernel_rfl, by kernel_rfl⟩
theorem ex6_ok : unpZ ((packL 1 exA).headD ByteArray.empty) = ⟨1, 0, 1, exA, true⟩ := by kernel_rfl
end Go.Jn
/- strings.Repeat of "x", 50 times (the law's example), by the shelf's contract. -/
namespace Go.Proofs.YtipbkdlekanlmaaGreatDoor
open Go.Shelf Go.RowKit Go.Lab Go.Jn
theorem shExtra : Builder.Extra Tryz.prog shRepeat_ren where
  sizeBuilder := by kernel_rfl
  liesBuilder := by kernel_rfl
  t5 := shRepeat.t5
  a5 := shRepeat.a5
  z5 := shRepeat.z5
  v5 := shRepeat.v5
  infoByte := by kernel_rfl
  cellsByte := by kernel_rfl
  sizeByte := by kernel_rfl
  neB5 := by decide
theorem shRepeat_no : shRepeat_ren.f 105 = 39 := by kernel_rfl
theorem repeat_x (w : World) : Calls Tryz.prog 39 #[.string ⟨#[120]⟩, .int .i64 50] w fun e w' => e = .returned (.string exX) ∧ Below w.heap.size w w' := by
  have h := Any.strings_Repeat shRepeat shExtra ⟨#[120]⟩ 50 w (by omega) (by decide)
  rw [shRepeat_no] at h
  have e : Lib.repeatL (ByteArray.mk #[120]).data.toList 50 = List.replicate 50 120 := by decide
  refine h.mono fun e' w' ⟨he, hw⟩ => ⟨?_, hw⟩
  rw [he, e]
  rfl
end Go.Proofs.YtipbkdlekanlmaaGreatDoor
/- Journal, plain: more of the law's examples. -/
namespace Go.Jn
open Go Go.Lab Go.Disk Go.Proofs.YtipbkdlekanlmaaGreatDoor
theorem ex0_ok : openZ (newD 4) = jz0 := by kernel_rfl
theorem ex3_room : (ex3.2.2.1.closed, ex3.2.2.1.next, roomZ ex3.2.2.1 ex3.2.2.2) = (false, 4, 0) := by kernel_rfl
theorem append_full (j : JZ) (D : Dk) (t : ByteArray) (h1 : j.closed = false) (h2 : j.next = 4) (h3 : roomZ j D = 0) (ht : t.size = 1) : (appendZ j D t).2.2.1 = j := by
  unfold appendZ
  rw [if_neg (by rw [h1]; decide), if_neg (by rw [h2, ht]; decide), if_pos (by rw [h3, ht]; decide)]
theorem ex4_same : ex4.2.2.1 = ex3.2.2.1 := by
  have key : ∀ (a : Bool) (b c : Int), (a, b, c) = (false, 4, 0) → a = false ∧ b = 4 ∧ c = 0 := by
    rintro a b c h
    simpa using h
  have h := key _ _ _ ex3_room
  unfold ex4
  exact append_full _ _ _ h.1 h.2.1 h.2.2 (by decide)
theorem exI (D : Dk) (i bit : Int) : (rotD D i bit).s.length = D.s.length := by
  unfold rotD
  split
  · show (rotS D.s _ _).length = _
    unfold rotS
    rw [List.length_set]
  · rfl
theorem jz0_ok : JOk jz0 4 0 := by
  refine ⟨?_, ?_, ?_, ?_, ?_, ?_, ?_, ?_⟩
  all_goals unfold jz0
  all_goals simp
theorem ex1_b : JOk ex1.2.2.1 4 1 ∧ ex1.2.2.2.s.length = 4 := by
  unfold ex1
  exact append_ok (D := newD 4) jz0_ok (by simp [newD]) exA
theorem ex2_b : JOk ex2.2.2.1 4 2 ∧ ex2.2.2.2.s.length = 4 := by
  unfold ex2
  exact append_ok ex1_b.1 ex1_b.2 exX
theorem exD_b : exD.s.length = 4 := by unfold exD; rw [exI]; exact ex2_b.2
theorem exK_b : JOk exK 4 4 := by
  have := open_ok exD
  rw [exD_b] at this
  exact this
theorem ex3_b : JOk ex3.2.2.1 4 5 ∧ ex3.2.2.2.s.length = 4 := by
  unfold ex3
  exact append_ok exK_b exD_b _
theorem exD_off : exD.off = false := by kernel_rfl
theorem exD_rot : rotOk ex2.2.2.2 1 70 = true := by
  unfold rotOk Dk.isIn
  rw [ex2_b.2]
  rfl
end Go.Jn
/- Journal: the law's examples. -/
namespace Go.Proofs.YtipbkdlekanlmaaGreatDoor
open Go.RowKit Go.Lab Go.Disk Go.Jn
attribute [local go_sem] Oper.semAt_some
set_option maxRecDepth 100000
theorem range_map193 (f : Nat → Value) : (List.range 193).map f = [f 0, f 1, f 2, f 3, f 4, f 5, f 6, f 7, f 8, f 9, f 10, f 11, f 12, f 13, f 14, f 15, f 16, f 17, f 18, f 19, f 20, f 21, f 22, f 23, f 24, f 25, f 26, f 27, f 28, f 29, f 30, f 31, f 32, f 33, f 34, f 35, f 36, f 37, f 38, f 39, f 40, f 41, f 42, f 43, f 44, f 45, f 46, f 47, f 48, f 49, f 50, f 51, f 52, f 53, f 54, f 55, f 56, f 57, f 58, f 59, f 60, f 61, f 62, f 63, f 64, f 65, f 66, f 67, f 68, f 69, f 70, f 71, f 72, f 73, f 74, f 75, f 76, f 77, f 78, f 79, f 80, f 81, f 82, f 83, f 84, f 85, f 86, f 87, f 88, f 89, f 90, f 91, f 92, f 93, f 94, f 95, f 96, f 97, f 98, f 99, f 100, f 101, f 102, f 103, f 104, f 105, f 106, f 107, f 108, f 109, f 110, f 111, f 112, f 113, f 114, f 115, f 116, f 117, f 118, f 119, f 120, f 121, f 122, f 123, f 124, f 125, f 126, f 127, f 128, f 129, f 130, f 131, f 132, f 133, f 134, f 135, f 136, f 137, f 138, f 139, f 140, f 141, f 142, f 143, f 144, f 145, f 146, f 147, f 148, f 149, f 150, f 151, f 152, f 153, f 154, f 155, f 156, f 157, f 158, f 159, f 160, f 161, f 162, f 163, f 164, f 165, f 166, f 167, f 168, f 169, f 170, f 171, f 172, f 173, f 174, f 175, f 176, f 177, f 178, f 179, f 180, f 181, f 182, f 183, f 184, f 185, f 186, f 187, f 188, f 189, f 190, f 191, f 192] := rfl
theorem frame193 (t : Array Value) (ds : List Deferred) (h : t.size = 193) : ({ tmps := t, defers := ds } : Act) = { tmps := #[slot t 0, slot t 1, slot t 2, slot t 3, slot t 4, slot t 5, slot t 6, slot t 7, slot t 8, slot t 9, slot t 10, slot t 11, slot t 12, slot t 13, slot t 14, slot t 15, slot t 16, slot t 17, slot t 18, slot t 19, slot t 20, slot t 21, slot t 22, slot t 23, slot t 24, slot t 25, slot t 26, slot t 27, slot t 28, slot t 29, slot t 30, slot t 31, slot t 32, slot t 33, slot t 34, slot t 35, slot t 36, slot t 37, slot t 38, slot t 39, slot t 40, slot t 41, slot t 42, slot t 43, slot t 44, slot t 45, slot t 46, slot t 47, slot t 48, slot t 49, slot t 50, slot t 51, slot t 52, slot t 53, slot t 54, slot t 55, slot t 56, slot t 57, slot t 58, slot t 59, slot t 60, slot t 61, slot t 62, slot t 63, slot t 64, slot t 65, slot t 66, slot t 67, slot t 68, slot t 69, slot t 70, slot t 71, slot t 72, slot t 73, slot t 74, slot t 75, slot t 76, slot t 77, slot t 78, slot t 79, slot t 80, slot t 81, slot t 82, slot t 83, slot t 84, slot t 85, slot t 86, slot t 87, slot t 88, slot t 89, slot t 90, slot t 91, slot t 92, slot t 93, slot t 94, slot t 95, slot t 96, slot t 97, slot t 98, slot t 99, slot t 100, slot t 101, slot t 102, slot t 103, slot t 104, slot t 105, slot t 106, slot t 107, slot t 108, slot t 109, slot t 110, slot t 111, slot t 112, slot t 113, slot t 114, slot t 115, slot t 116, slot t 117, slot t 118, slot t 119, slot t 120, slot t 121, slot t 122, slot t 123, slot t 124, slot t 125, slot t 126, slot t 127, slot t 128, slot t 129, slot t 130, slot t 131, slot t 132, slot t 133, slot t 134, slot t 135, slot t 136, slot t 137, slot t 138, slot t 139, slot t 140, slot t 141, slot t 142, slot t 143, slot t 144, slot t 145, slot t 146, slot t 147, slot t 148, slot t 149, slot t 150, slot t 151, slot t 152, slot t 153, slot t 154, slot t 155, slot t 156, slot t 157, slot t 158, slot t 159, slot t 160, slot t 161, slot t 162, slot t 163, slot t 164, slot t 165, slot t 166, slot t 167, slot t 168, slot t 169, slot t 170, slot t 171, slot t 172, slot t 173, slot t 174, slot t 175, slot t 176, slot t 177, slot t 178, slot t 179, slot t 180, slot t 181, slot t 182, slot t 183, slot t 184, slot t 185, slot t 186, slot t 187, slot t 188, slot t 189, slot t 190, slot t 191, slot t 192], defers := ds } := by
  have e : t = ((List.range 193).map (slot t)).toArray := by
    apply Array.ext
    · simp [h]
    · intro i h1 h2
      simp [slot, Array.getD, h1]
  rw [range_map193] at e
  exact congrArg (fun x => ({ tmps := x, defers := ds } : Act)) e
theorem Turned.toB {T : Nat → Prop} {B : Nat} {w w' : World} (h : Turned T w w') (hT : ∀ x, T x → B ≤ x) (hB : B ≤ w.heap.size) : Below B w w' := ⟨h.os, h.tape, h.output, h.size, fun b hb => h.block b (by omega) (fun ht => by have := hT b ht; omega)⟩
theorem sameInts_t (v u : Value) (l : List Int) (W : World) (h : NumsAt W v l) (h' : NumsAt W u l) : Calls Tryz.prog 23 #[v, u] W fun e w' => e = .returned (.bool true) ∧ Below W.heap.size W w' :=
  (sameInts1_any v u l l W h h').mono fun e w' ⟨he, n, hn⟩ => ⟨by rw [he, decide_eq_true rfl], by rw [hn]; exact below_drewN (Below.refl _ _) n⟩
theorem sameTexts_t (v u : Value) (l : List ByteArray) (W : World) (h : StrsAt W v l) (h' : StrsAt W u l) : Calls Tryz.prog 20 #[v, u] W fun e w' => e = .returned (.bool true) ∧ Below W.heap.size W w' :=
  (sameTexts1_any v u l l W h h').mono fun e w' ⟨he, n, hn⟩ => ⟨by rw [he, decide_eq_true rfl], by rw [hn]; exact below_drewN (Below.refl _ _) n⟩
theorem append_ex (p dv : Value) (j : JZ) (D : Dk) (t : ByteArray) (w : World) (lo dlo dhi : Nat) (n m : Nat) (hj : JOn (fun x => dhi ≤ x) w lo p dv j) (hd : DiskAt w dlo dhi dv D) (hlo : dhi ≤ lo) (hts : t.size ≤ 100000) (hok : JOk j n m) (hn : n ≤ 4096) (hm : m < 10000)
    (hk : w.rangeAt 2 0 (u32C ks0)) (a b : Int) (j2 : JZ) (D2 : Dk) (hr : appendZ j D t = (a, b, j2, D2)) :
    Calls Tryz.prog 26 #[p, .string t] w fun e w' => e = .returned (.tuple #[.int .i64 a, .int .i64 b]) ∧ JOn (fun x => dhi ≤ x) w' lo p dv j2 ∧ DiskAt w' dlo dhi dv D2 ∧ Below dlo w w' := by
  have h := append_any p dv j D t w lo dlo dhi _ hj hd hlo hts ⟨hok.s0, by have := hok.s1; omega⟩ ⟨hok.n0, by have := hok.n1; omega⟩ ⟨by have := hok.nl; omega, by have := hok.tl; omega⟩ hk
  rw [hr] at h
  have hhi : dlo ≤ dhi ∧ dhi ≤ w.heap.size := by
    obtain ⟨b, g, mb, wb, c, l, P, W, hp, h⟩ := hd
    have := h.hb
    exact ⟨by omega, h.hi⟩
  exact h.mono fun e w' ⟨he, h1, h2, h3⟩ => ⟨he, h1.mono (fun x hx => by
    rcases hx with hx | hx
    · exact hx
    · omega), h2, h3.toB (fun x hx => by
    rcases hx with hx | hx
    · exact hx.1
    · omega) (by omega)⟩
theorem strL_one1 : ∀ l : List ByteArray, l.length = 1 → (strL l)[0]? = some (.string (l.headD ByteArray.empty))
  | [], h => by simp at h
  | [x], _ => rfl
  | _ :: _ :: _, h => by simp at h
theorem ex_split : ∀ (e : Int × Int × JZ × Dk) (a b : Int), (e.1, e.2.1) = (a, b) → e = (a, b, e.2.2.1, e.2.2.2) := by
  rintro ⟨x, y, z, v⟩ a b h
  injection h with h1 h2
  simp only at h1 h2
  rw [h1, h2]
theorem ex1_eq : appendZ jz0 (newD 4) exA = (1, 0, ex1.2.2.1, ex1.2.2.2) := ex_split ex1 1 0 ex1_ok
theorem ex2_eq : appendZ ex1.2.2.1 ex1.2.2.2 exX = (2, 0, ex2.2.2.1, ex2.2.2.2) := ex_split ex2 2 0 (by
  have key : ∀ (a b c x y z : Int), (a, b, c) = (x, y, z) → (a, b) = (x, y) := by
    rintro a b c x y z h
    injection h with h1 h
    injection h with h2 h3
    rw [h1, h2]
  exact key _ _ _ _ _ _ ex2_ok)
theorem ex2_room : roomZ ex2.2.2.1 ex2.2.2.2 = 1 := by
  have key : ∀ (a b c x y z : Int), (a, b, c) = (x, y, z) → c = z := by
    rintro a b c x y z h
    injection h with h1 h
    injection h with h2 h3
  exact key _ _ _ _ _ _ ex2_ok
theorem ex3_four : ex3.1 = 3 ∧ ex3.2.1 = 0 ∧ ex3.2.2.1.nums = [1, 3] ∧ ex3.2.2.1.bad = [1] := by
  have key : ∀ (a b : Int) (c d : List Int) (x y : Int) (z u : List Int), (a, b, c, d) = (x, y, z, u) → a = x ∧ b = y ∧ c = z ∧ d = u := by
    rintro a b c d x y z u h
    injection h with h1 h
    injection h with h2 h
    injection h with h3 h4
    exact ⟨h1, h2, h3, h4⟩
  exact key _ _ _ _ _ _ _ _ ex3_ok
theorem ex3_eq : appendZ exK exD ⟨#[98]⟩ = (3, 0, ex3.2.2.1, ex3.2.2.2) := ex_split ex3 3 0 (by rw [ex3_four.1, ex3_four.2.1])
theorem ex4_eq : ∃ x D, appendZ ex3.2.2.1 ex3.2.2.2 ⟨#[99]⟩ = (x, 24, ex3.2.2.1, D) := by
  have key : ∀ (e : Int × Int × JZ × Dk) (b : Int) (j : JZ), e.2.1 = b → e.2.2.1 = j → e = (e.1, b, j, e.2.2.2) := by
    rintro ⟨x, y, z, v⟩ b j h1 h2
    simp only at h1 h2
    rw [h1, h2]
  exact ⟨_, _, key ex4 24 _ ex4_ok ex4_same⟩
set_option maxHeartbeats 8000000 in
theorem sanity_any (w : World) (hk : w.rangeAt 2 0 (u32C ks0)) : Calls Tryz.prog 7 #[] w fun e w' => e = .returned (.bool true) ∧ Below w.heap.size w w' := by
  have HK := hidep hk
  clear hk
  have H1 := hidep (show Calls Tryz.prog 8 #[.int .i64 4] w fun e w' => ∃ p, e = .returned (.tuple #[p, .int .i64 0]) ∧ DiskAt w' w.heap.size w'.heap.size p (newD 4) ∧ Below w.heap.size w w' from new_any 4 w (by omega) (by omega))
  go_enter Tryz.func7, Tryz.ntmps7
  go_upto_region 2 with (first
    | (go_at_call 8; refine H1.out.mono ?_; rintro e w1 ⟨p, rfl, hd1, hb1⟩)
    | fail)
  obtain ⟨q, rfl⟩ := disk_ptr hd1
  have hop := open_any _ (newD 4) w1 _ _ hd1 rfl (HK.out.below hb1)
  rw [ex0_ok] at hop
  have HOP := hidep hop
  clear hop H1
  go_upto_region 5 with (first
    | (go_at_call 12; refine HOP.out.mono ?_; rintro e w2 ⟨pj, rfl, hj2, hb2⟩)
    | fail)
  obtain ⟨jb, hpj⟩ : ∃ jb, pj = .pointer (some ⟨jb, 0, none⟩) := by
    obtain ⟨b, nv, bv, tv, hp, _⟩ := hj2
    exact ⟨b, hp⟩
  subst hpj
  have HNX := hidep (show Calls Tryz.prog 37 #[.pointer (some ⟨jb, 0, none⟩)] w2 fun e w' => e = .returned (.int .i64 1) ∧ w' = w2 from next_any _ _ jz0 w2 _ hj2)
  have HRM := hidep (show Calls Tryz.prog 38 #[.pointer (some ⟨jb, 0, none⟩)] w2 fun e w' => e = .returned (.int .i64 4) ∧ Below w2.heap.size w2 w' from room_any _ _ jz0 (newD 4) w2 _ _ _ hj2 (hd1.below hb2) ⟨by decide, by decide⟩)
  have HD := hidep (And.intro hd1 (And.intro hb1 (And.intro hj2 hb2)))
  clear hd1 hb1 hj2 hb2 HOP
  go_upto_region 7 with (first
    | (go_at_call 37; refine HNX.out.mono ?_; rintro e w3 ⟨rfl, hw3⟩; rw [hw3]; clear hw3)
    | (go_at_call 38; refine HRM.out.mono ?_; rintro e w3 ⟨rfl, hb3⟩)
    | fail)
  have hb13 : Below w1.heap.size w1 w3 := HD.out.2.2.2.trans (hb3.mono HD.out.2.2.2.size)
  have hbw3 : Below w.heap.size w w3 := HD.out.2.1.trans (hb13.mono HD.out.2.1.size)
  have hd3 := HD.out.1.below hb13
  have hj3 := (HD.out.2.2.1.on.mono (B' := fun x => w1.heap.size ≤ x) (fun x hx => hx.1)).below hb3
  have HA1 := hidep (append_ex _ _ jz0 (newD 4) exA w3 w1.heap.size w.heap.size w1.heap.size 4 0 hj3 hd3 (Nat.le_refl _) (by decide) jz0_ok (by decide) (by decide) (HK.out.below hbw3) _ _ _ _ ex1_eq)
  clear hb13 hd3 hj3 HNX HRM hb3
  unfold exA at HA1
  go_upto_region 8 with (first
    | (go_at_call 26; refine HA1.out.mono ?_; rintro e w4 ⟨rfl, hj4, hd4, hb4⟩)
    | fail)
  have hbw4 := hbw3.trans hb4
  refine wp_cutA 193 (fun tm ds => ds = [] ∧ slot tm 1 = .pointer (some ⟨q, 0, none⟩) ∧ slot tm 3 = .pointer (some ⟨jb, 0, none⟩) ∧ slot tm 5 = .int .i64 1 ∧ slot tm 6 = .int .i64 0) (by kernel_rfl) (by exact ⟨by kernel_rfl, by kernel_rfl, by kernel_rfl, by kernel_rfl, by kernel_rfl⟩) ?_
  rintro tA dA h193 ⟨rfl, e1, e3, e5, e6⟩
  rw [frame193 tA [] h193, e1, e3, e5, e6]
  clear h193 e1 e3 e5 e6 HA1 hb4 hbw3
  have HH := hidep (And.intro hj4 hd4)
  clear hj4 hd4
  have HRP := hidep (repeat_x w4)
  go_upto_region 9 with (first
    | (go_at_call 39; refine HRP.out.mono ?_; rintro e w5 ⟨rfl, hb5⟩)
    | (go_at_call 26; refine (append_ex _ _ ex1.2.2.1 ex1.2.2.2 exX w5 w1.heap.size w.heap.size w1.heap.size 4 1 (HH.out.1.below hb5) (HH.out.2.below hb5) (Nat.le_refl _) (by decide) ex1_b.1 (by decide) (by decide) (HK.out.below (hbw4.trans (hb5.mono hbw4.size))) _ _ _ _ ex2_eq).mono ?_; rintro e w6 ⟨rfl, hj6, hd6, hb6⟩)
    | fail)
  have hbw6 := (hbw4.trans (hb5.mono hbw4.size)).trans hb6
  clear hbw4 hb5 hb6 HH HRP
  have HR6 := hidep (show Calls Tryz.prog 38 #[.pointer (some ⟨jb, 0, none⟩)] w6 fun e w' => e = .returned (.int .i64 1) ∧ Below w6.heap.size w6 w' from by
    have h := room_any _ _ ex2.2.2.1 ex2.2.2.2 w6 _ _ _ hj6.at hd6 ⟨ex2_b.1.s0, by have := ex2_b.1.s1; omega⟩
    rw [ex2_room] at h
    exact h)
  have HD6 := hidep hd6
  clear hd6 hj6
  go_upto_region 10 with (first
    | (go_at_call 38; refine HR6.out.mono ?_; rintro e w7 ⟨rfl, hb7⟩)
    | fail)
  have HR7 := hidep (show Calls Tryz.prog 17 #[.pointer (some ⟨q, 0, none⟩), .int .i64 1, .int .i64 70] w7 fun e w' => e = .returned (.int .i64 0) ∧ DiskAt w' w.heap.size w1.heap.size (.pointer (some ⟨q, 0, none⟩)) exD ∧ Turn w.heap.size w1.heap.size w7 w' from by
    have h := rot_any _ ex2.2.2.2 1 70 w7 _ _ (HD6.out.below hb7)
    rw [if_pos exD_rot] at h
    exact h)
  have hbw7 := hbw6.trans (hb7.mono hbw6.size)
  clear HR6 HD6 hb7 hbw6
  go_upto_region 11 with (first
    | (go_at_call 17; refine HR7.out.mono ?_; rintro e w8 ⟨rfl, hd8, hT8⟩)
    | fail)
  have hbw8 : Below w.heap.size w w8 := hbw7.trans (hT8.below (Nat.le_refl _) hbw7.size)
  have HO8 := hidep (open_any _ exD w8 _ _ hd8 exD_off (HK.out.below hbw8))
  have HD8 := hidep hd8
  refine wp_cutA 193 (fun tm ds => ds = [] ∧ slot tm 1 = .pointer (some ⟨q, 0, none⟩) ∧ slot tm 5 = .int .i64 1 ∧ slot tm 6 = .int .i64 0 ∧ slot tm 7 = .int .i64 2 ∧ slot tm 8 = .int .i64 0 ∧ slot tm 9 = .int .i64 1 ∧ slot tm 10 = .int .i64 0) (by kernel_rfl) (by exact ⟨by kernel_rfl, by kernel_rfl, by kernel_rfl, by kernel_rfl, by kernel_rfl, by kernel_rfl, by kernel_rfl, by kernel_rfl⟩) ?_
  rintro tB dB h193 ⟨rfl, e1, e5, e6, e7, e8, e9, e10⟩
  rw [frame193 tB [] h193, e1, e5, e6, e7, e8, e9, e10]
  clear h193 e1 e5 e6 e7 e8 e9 e10 hd8 hT8 HR7 hbw7
  go_upto_region 12 with (first
    | (go_at_call 12; refine HO8.out.mono ?_; rintro e w9 ⟨pk, rfl, hk9, hb9⟩)
    | fail)
  obtain ⟨kb, hpk⟩ : ∃ kb, pk = .pointer (some ⟨kb, 0, none⟩) := by
    obtain ⟨b, nv, bv, tv, hp, _⟩ := hk9
    exact ⟨b, hp⟩
  subst hpk
  have hbw9 := hbw8.trans (hb9.mono hbw8.size)
  have hlow : w1.heap.size ≤ w8.heap.size := by
    obtain ⟨b, g, mb, wb, c, l, P, W, hp, h⟩ := HD8.out
    exact h.hi
  have hd9 := HD8.out.below hb9
  have hj9 : JOn (fun x => w1.heap.size ≤ x) w9 w8.heap.size (.pointer (some ⟨kb, 0, none⟩)) (.pointer (some ⟨q, 0, none⟩)) exK := hk9.on.mono (fun x hx => by omega)
  have HA9 := hidep (append_ex _ _ exK exD ⟨#[98]⟩ w9 w8.heap.size w.heap.size w1.heap.size 4 4 hj9 hd9 hlow (by decide) exK_b (by decide) (by decide) (HK.out.below hbw9) _ _ _ _ ex3_eq)
  clear hk9 hb9 hd9 hj9 HO8 HD8 hbw8
  go_upto_region 14 with (fail)
  go_upto_region 15 with (first
    | (go_at_call 26; refine HA9.out.mono ?_; rintro e w10 ⟨rfl, hj10, hd10, hb10⟩)
    | fail)
  have hbw10 := hbw9.trans hb10
  obtain ⟨x4, D4, h4⟩ := ex4_eq
  have HA10 := hidep (append_ex _ _ ex3.2.2.1 ex3.2.2.2 ⟨#[99]⟩ w10 w8.heap.size w.heap.size w1.heap.size 4 5 hj10 hd10 hlow (by decide) ex3_b.1 (by decide) (by decide) (HK.out.below hbw10) _ _ _ _ h4)
  clear HA9 hbw9 hb10 hj10 hd10 h4
  refine wp_cutA 193 (fun tm ds => ds = [] ∧ slot tm 11 = .pointer (some ⟨kb, 0, none⟩) ∧ slot tm 13 = .int .i64 3 ∧ slot tm 14 = .int .i64 0) (by kernel_rfl) (by exact ⟨by kernel_rfl, by kernel_rfl, by kernel_rfl, by kernel_rfl⟩) ?_
  rintro tC dC h193 ⟨rfl, e11, e13, e14⟩
  rw [frame193 tC [] h193, e11, e13, e14]
  clear h193 e11 e13 e14
  go_upto_region 16 with (first
    | (go_at_call 26; refine HA10.out.mono ?_; rintro e w11 ⟨rfl, hj11, hd11, hb11⟩)
    | fail)
  have hbw11 := hbw10.trans hb11
  have HP11 := hidep (show Calls Tryz.prog 40 #[.int .i64 1, .string ⟨#[97]⟩] w11 fun e w' => ∃ v, e = .returned (.tuple #[v, .int .i64 0]) ∧ w'.ownsRow w11.heap.size 9 1 v 1 (strL (packL 1 exA)) ∧ Below w11.heap.size w11 w' from by
    have h := pack_any 1 exA w11 (by decide) (by decide) (HK.out.below hbw11)
    rw [ex5_ok.1, ex5_ok.2] at h
    exact h)
  have HJ11 := hidep hj11.at
  clear hj11 hd11 hb11 hbw10 HA10
  go_upto_region 17 with (first
    | (go_at_call 40; refine HP11.out.mono ?_; rintro e w12 ⟨v, rfl, ho12, hb12⟩; obtain ⟨va, vc, rfl, hvl, hvc⟩ := (Rd.of_own ho12).form)
    | fail)
  obtain ⟨g, o, rfl, hgl, hcell⟩ := (Rd.of_own ho12).at (by decide)
  have hc0 := hcell 0 _ (strL_one1 (packL 1 exA) ex5_ok.2)
  rw [Nat.add_zero] at hc0
  have hbw12 := hbw11.trans (hb12.mono hbw11.size)
  have HU12 := hidep (show Calls Tryz.prog 41 #[.string ((packL 1 exA).headD ByteArray.empty)] w12 fun e w' => e = .returned (.tuple #[.int .i64 1, .int .i64 0, .int .i64 1, .string exA, .bool true]) ∧ Below w12.heap.size w12 w' from by
    have h := unpack5_any ((packL 1 exA).headD ByteArray.empty) w12 (HK.out.below hbw12)
    rw [ex6_ok] at h
    exact h)
  obtain ⟨s1, hs1⟩ : ∃ s1, s1 = (packL 1 exA).headD ByteArray.empty := ⟨_, rfl⟩
  rw [← hs1] at HU12 hc0
  have HB12 := hidep hb12
  clear hs1 hcell ho12 hb12 HP11 hgl
  go_upto_region 20 with (first
    | (go_at_call 41; refine HU12.out.mono ?_; rintro e w13 ⟨rfl, hb13⟩)
    | fail)
  have hb13' := HB12.out.trans (hb13.mono HB12.out.size)
  have hbw13 := hbw12.trans (hb13.mono hbw12.size)
  have hj13 := HJ11.out.below hb13'
  have HNU := hidep (fun Y (hY : Below w13.heap.size w13 Y) => show Calls Tryz.prog 42 #[.pointer (some ⟨kb, 0, none⟩)] Y fun e w' => ∃ v, e = .returned v ∧ NumsAt w' v [1, 3] ∧ Below Y.heap.size Y w' from by
    have h := numbers_any _ _ ex3.2.2.1 Y _ (hj13.below hY)
    rw [ex3_four.2.2.1] at h
    exact h.mono fun e w' ⟨v, he, ho, hb⟩ => ⟨v, he, (Rd.of_own ho).mono (fun _ _ => trivial), hb⟩)
  have HTX := hidep (fun Y (hY : Below w13.heap.size w13 Y) => show Calls Tryz.prog 21 #[.pointer (some ⟨kb, 0, none⟩)] Y fun e w' => ∃ v, e = .returned v ∧ StrsAt w' v [exA, ⟨#[98]⟩] ∧ Below Y.heap.size Y w' from by
    have h := texts_any _ _ ex3.2.2.1 Y _ (hj13.below hY)
    rw [ex3_texts] at h
    exact h.mono fun e w' ⟨v, he, ho, hb⟩ => ⟨v, he, (Rd.of_own ho).mono (fun _ _ => trivial), hb⟩)
  have HDA := hidep (fun Y (hY : Below w13.heap.size w13 Y) => show Calls Tryz.prog 24 #[.pointer (some ⟨kb, 0, none⟩)] Y fun e w' => ∃ v, e = .returned v ∧ NumsAt w' v [2] ∧ Below Y.heap.size Y w' from by
    have h := damaged_any _ _ ex3.2.2.1 Y _ (hj13.below hY) ⟨ex3_b.1.n0, by have := ex3_b.1.n1; omega⟩ (fun x hx => by have := ex3_b.1.nr x hx; omega)
    rw [ex3_damaged] at h
    exact h.mono fun e w' ⟨v, he, ho, hb⟩ => ⟨v, he, (Rd.of_own ho).mono (fun _ _ => trivial), hb⟩)
  have HBA := hidep (fun Y (hY : Below w13.heap.size w13 Y) => show Calls Tryz.prog 22 #[.pointer (some ⟨kb, 0, none⟩)] Y fun e w' => ∃ v, e = .returned v ∧ NumsAt w' v [1] ∧ Below Y.heap.size Y w' from by
    have h := bad_any _ _ ex3.2.2.1 Y _ (hj13.below hY)
    rw [ex3_four.2.2.2] at h
    exact h.mono fun e w' ⟨v, he, ho, hb⟩ => ⟨v, he, (Rd.of_own ho).mono (fun _ _ => trivial), hb⟩)
  have HCO := hidep (fun Y => show Calls Tryz.prog 16 #[.int .i64 49] Y fun e w' => e = .returned (.int .i64 2) ∧ w' = Y from count_any 49 Y (by decide) (by decide))
  have HW := hidep hbw13
  have hk := Below.refl w13.heap.size w13
  refine wp_cutA 193 (fun tm ds => ds = [] ∧ slot tm 11 = .pointer (some ⟨kb, 0, none⟩) ∧ slot tm 19 = .int .i64 1 ∧ slot tm 20 = .int .i64 0 ∧ slot tm 21 = .int .i64 1 ∧ slot tm 22 = .string exA ∧ slot tm 23 = .bool true) (by kernel_rfl) (by exact ⟨by kernel_rfl, by kernel_rfl, by kernel_rfl, by kernel_rfl, by kernel_rfl, by kernel_rfl, by kernel_rfl⟩) ?_
  rintro tD dD h193 ⟨rfl, e11, e19, e20, e21, e22, e23⟩
  rw [frame193 tD [] h193, e11, e19, e20, e21, e22, e23]
  clear h193 e11 e19 e20 e21 e22 e23 hc0 hb13 hb13' hbw13 hbw12 hbw11 hj13 HU12 HB12 HJ11
  unfold exA
  go_wp2_with (first
    | (go_at_call 42; refine (HNU.out _ hk).mono ?_; rintro e w20 ⟨v20, rfl, hn20, hb20⟩; obtain ⟨_, _, rfl, _, _⟩ := hn20.form; have hk := hk.trans (hb20.mono hk.size))
    | (go_at_call 21; refine (HTX.out _ hk).mono ?_; rintro e w22 ⟨v22, rfl, hn22, hb22⟩; obtain ⟨_, _, rfl, _, _⟩ := hn22.form; have hk := hk.trans (hb22.mono hk.size))
    | (go_at_call 24; refine (HDA.out _ hk).mono ?_; rintro e w24 ⟨v24, rfl, hn24, hb24⟩; obtain ⟨_, _, rfl, _, _⟩ := hn24.form; have hk := hk.trans (hb24.mono hk.size))
    | (go_at_call 22; refine (HBA.out _ hk).mono ?_; rintro e w26 ⟨v26, rfl, hn26, hb26⟩; obtain ⟨_, _, rfl, _, _⟩ := hn26.form; have hk := hk.trans (hb26.mono hk.size))
    | (go_at_call 16; refine (HCO.out _).mono ?_; rintro e w28 ⟨rfl, rfl⟩)
    | (go_at_call 20; refine (sameTexts_t _ _ [⟨#[97]⟩, ⟨#[98]⟩] _ (hn22.below ((Below.refl _ _).alloc (Nat.le_refl _) _)) ((Rd.fresh w22 #[.string ⟨#[97]⟩, .string ⟨#[98]⟩] 9 1 2 rfl (by decide)).mono (fun _ _ => trivial))).mono ?_; rintro e w23 ⟨rfl, hb23⟩; have hk := (hk.alloc hk.size _).trans (hb23.mono (Nat.le_trans hk.size (by simp))))
    | (go_at_call 23; first
        | (refine (sameInts_t _ _ [1] _ (hn26.below ((Below.refl _ _).alloc (Nat.le_refl _) _)) ((Rd.fresh w26 #[.int .i64 1] 3 1 1 rfl (by decide)).mono (fun _ _ => trivial))).mono ?_; rintro e w27 ⟨rfl, hb27⟩; have hk := (hk.alloc hk.size _).trans (hb27.mono (Nat.le_trans hk.size (by simp))))
        | (refine (sameInts_t _ _ [2] _ (hn24.below ((Below.refl _ _).alloc (Nat.le_refl _) _)) ((Rd.fresh w24 #[.int .i64 2] 3 1 1 rfl (by decide)).mono (fun _ _ => trivial))).mono ?_; rintro e w25 ⟨rfl, hb25⟩; have hk := (hk.alloc hk.size _).trans (hb25.mono (Nat.le_trans hk.size (by simp))))
        | (refine (sameInts_t _ _ [1, 3] _ (hn20.below ((Below.refl _ _).alloc (Nat.le_refl _) _)) ((Rd.fresh w20 #[.int .i64 1, .int .i64 3] 3 1 2 rfl (by decide)).mono (fun _ _ => trivial))).mono ?_; rintro e w21 ⟨rfl, hb21⟩; have hk := (hk.alloc hk.size _).trans (hb21.mono (Nat.le_trans hk.size (by simp)))))
    | fail)
  go_ret
  exact ⟨rfl, HW.out.trans (hk.mono HW.out.size)⟩
end Go.Proofs.YtipbkdlekanlmaaGreatDoor
