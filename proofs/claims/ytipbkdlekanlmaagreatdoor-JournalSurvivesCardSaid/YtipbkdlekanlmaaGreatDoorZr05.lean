/- Words of 32 bits, plain: what the walk leaves of additions, shifts and bit operations. -/
import Derived.Lib.Hide
import Derived.Test.YtipbkdlekanlmaaGreatDoorZr01
import Derived.Test.YtipbkdlekanlmaaGreatDoorRows
import Derived.Deep.Light
import Derived.RangeFuncNested
import Derived.RangeFuncLeaves
import Derived.RangeFuncCalls
import Derived.RangeFuncBound
import Derived.RangeFuncWrites
import Derived.RangeFuncBox
import Derived.OrdersIn
import Derived.OrdersHeld
import Derived.Deep.RegionHeld3
import Derived.TacticsIn
import Derived.Deep.MidRow
import Derived.Deep.WholeRow
namespace Go.Lab
open Go
/-- A word as a value. -/
abbrev wz (x : BitVec 32) : Int := (x.toNat : Int)
theorem wrap32 (n : Int) : IntKind.u32.wrap n = n % 4294967296 := by simp [IntKind.wrap, IntKind.bits, IntKind.signed]
theorem wz_lt (x : BitVec 32) : 0 ≤ wz x ∧ wz x < 4294967296 := by
  have := x.isLt
  unfold wz
  omega
theorem wz_of (n : Int) (h0 : 0 ≤ n) (h1 : n < 4294967296) : ∃ x : BitVec 32, n = wz x := by
  refine ⟨BitVec.ofNat 32 n.toNat, ?_⟩
  unfold wz
  rw [BitVec.toNat_ofNat]
  omega
theorem ofInt_wz (x : BitVec 32) : BitVec.ofInt 32 (wz x) = x := by
  unfold wz
  rw [BitVec.ofInt_natCast, BitVec.ofNat_toNat, BitVec.setWidth_eq]
theorem w_add (x y : BitVec 32) : IntKind.u32.wrap (wz x + wz y) = wz (x + y) := by
  rw [wrap32]
  unfold wz
  rw [BitVec.toNat_add]
  omega
theorem w_xor (x y : BitVec 32) : bits .xor .u32 (wz x) (wz y) = wz (x ^^^ y) := by
  show IntKind.u32.wrap ((BitVec.ofInt 32 (wz x) ^^^ BitVec.ofInt 32 (wz y)).toNat : Int) = _
  rw [ofInt_wz, ofInt_wz, wrap32]
  have := (x ^^^ y).isLt
  unfold wz
  omega
theorem w_and (x y : BitVec 32) : bits .and .u32 (wz x) (wz y) = wz (x &&& y) := by
  show IntKind.u32.wrap ((BitVec.ofInt 32 (wz x) &&& BitVec.ofInt 32 (wz y)).toNat : Int) = _
  rw [ofInt_wz, ofInt_wz, wrap32]
  have := (x &&& y).isLt
  unfold wz
  omega
theorem w_or (x y : BitVec 32) : bits .or .u32 (wz x) (wz y) = wz (x ||| y) := by
  show IntKind.u32.wrap ((BitVec.ofInt 32 (wz x) ||| BitVec.ofInt 32 (wz y)).toNat : Int) = _
  rw [ofInt_wz, ofInt_wz, wrap32]
  have := (x ||| y).isLt
  unfold wz
  omega
theorem w_shl (x : BitVec 32) (n : Nat) : IntKind.u32.wrap (wz x * 2 ^ n) = wz (x <<< n) := by
  rw [wrap32]
  unfold wz
  rw [BitVec.toNat_shiftLeft, Nat.shiftLeft_eq]
  have : ((x.toNat : Int) * 2 ^ n) = ((x.toNat * 2 ^ n : Nat) : Int) := by simp
  rw [this]
  omega
theorem w_shr (x : BitVec 32) (n : Nat) : Int.fdiv (wz x) (2 ^ n) = wz (x >>> n) := by
  unfold wz
  rw [BitVec.toNat_ushiftRight, Nat.shiftRight_eq_div_pow]
  have : ((2 : Int) ^ n) = ((2 ^ n : Nat) : Int) := by simp
  rw [this, Int.fdiv_eq_ediv_of_nonneg _ (Int.natCast_nonneg _)]
  first | exact (Int.natCast_ediv _ _).symm | simp | rfl
theorem w_not (x : BitVec 32) : bits .xor .u32 (wz x) 4294967295 = wz (~~~ x) := by
  have h : (4294967295 : Int) = wz (BitVec.allOnes 32) := by decide
  rw [h, w_xor, BitVec.xor_allOnes]
theorem w_addm (x y : BitVec 32) : (wz x + wz y) % (4294967296 : Int) = wz (x + y) := by rw [← wrap32]; exact w_add x y
theorem w_shlm (x : BitVec 32) (n : Nat) : wz x * (2 : Int) ^ n % (4294967296 : Int) = wz (x <<< n) := by rw [← wrap32]; exact w_shl x n
theorem w_shrm (x : BitVec 32) (n : Nat) : wz x / (2 : Int) ^ n = wz (x >>> n) := by
  rw [← w_shr, Int.fdiv_eq_ediv_of_nonneg]
  have : ((2 : Int) ^ n) = ((2 ^ n : Nat) : Int) := by simp
  rw [this]
  exact Int.natCast_nonneg _
theorem w_shr3 (x : BitVec 32) : wz x / (8 : Int) = wz (x >>> 3) := w_shrm x 3
theorem w_shr10 (x : BitVec 32) : wz x / (1024 : Int) = wz (x >>> 10) := w_shrm x 10
theorem w_shl8 (x : BitVec 32) : wz x * (256 : Int) % (4294967296 : Int) = wz (x <<< 8) := w_shlm x 8
theorem w_shl16 (x : BitVec 32) : wz x * (65536 : Int) % (4294967296 : Int) = wz (x <<< 16) := w_shlm x 16
theorem w_shl24 (x : BitVec 32) : wz x * (16777216 : Int) % (4294967296 : Int) = wz (x <<< 24) := w_shlm x 24
/-- A word turned right. -/
def rotr (x : BitVec 32) (n : Nat) : BitVec 32 := x >>> n ||| x <<< (32 - n)
theorem rotr_comm (x : BitVec 32) (n : Nat) : x <<< (32 - n) ||| x >>> n = rotr x n := BitVec.or_comm _ _
end Go.Lab
/- SHA-256 of 56 bytes, plain: words, schedule, rounds, the sum. -/
namespace Go.Lab
open Go
/-- A byte as a word. -/
def byW (x : Int) : BitVec 32 := BitVec.ofInt 32 x
theorem byW_wz (x : Int) (h0 : 0 ≤ x) (h1 : x < 256) : x = wz (byW x) := by
  unfold byW wz
  obtain ⟨n, rfl⟩ : ∃ n : Nat, x = (n : Int) := ⟨x.toNat, by omega⟩
  rw [BitVec.ofInt_natCast, BitVec.toNat_ofNat]
  omega
/-- Word t of a block of bytes. -/
def wordAt (l : List Int) (t : Nat) : BitVec 32 := ((byW (l.getD (4 * t) 0) <<< 8 ||| byW (l.getD (4 * t + 1) 0)) <<< 8 ||| byW (l.getD (4 * t + 2) 0)) <<< 8 ||| byW (l.getD (4 * t + 3) 0)
theorem word_flat (a b c d : BitVec 32) : ((a <<< 8 ||| b) <<< 8 ||| c) <<< 8 ||| d = ((a <<< 24 ||| b <<< 16) ||| c <<< 8) ||| d := by
  simp only [BitVec.shiftLeft_or_distrib, ← BitVec.shiftLeft_add]
theorem word_zero (a : BitVec 32) : (0 : BitVec 32) <<< 8 ||| a = a := by simp
def sg0 (p : BitVec 32) : BitVec 32 := rotr p 7 ^^^ rotr p 18 ^^^ p >>> 3
def sg1 (q : BitVec 32) : BitVec 32 := rotr q 17 ^^^ rotr q 19 ^^^ q >>> 10
def nextW (ws : List (BitVec 32)) (t : Nat) : BitVec 32 := ws.getD (t - 16) 0 + sg0 (ws.getD (t - 15) 0) + ws.getD (t - 7) 0 + sg1 (ws.getD (t - 2) 0)
/-- The first t words of the schedule. -/
def schedTo (l : List Int) : Nat → List (BitVec 32)
  | 0 => []
  | t + 1 => schedTo l t ++ [if t < 16 then wordAt l t else nextW (schedTo l t) t]
theorem schedTo_len (l : List Int) (t : Nat) : (schedTo l t).length = t := by
  induction t with
  | zero => rfl
  | succ t ih => simp [schedTo, ih]
/-- The eight words of a state. -/
structure Sv where
  a : BitVec 32
  b : BitVec 32
  c : BitVec 32
  d : BitVec 32
  e : BitVec 32
  f : BitVec 32
  g : BitVec 32
  h : BitVec 32
  deriving DecidableEq
def tmpX (v : Sv) (k w : BitVec 32) : BitVec 32 := v.h + (rotr v.e 6 ^^^ rotr v.e 11 ^^^ rotr v.e 25) + ((v.e &&& v.f) ^^^ (~~~ v.e &&& v.g)) + k + w
def tmpY (v : Sv) : BitVec 32 := (rotr v.a 2 ^^^ rotr v.a 13 ^^^ rotr v.a 22) + ((v.a &&& v.b) ^^^ (v.a &&& v.c) ^^^ (v.b &&& v.c))
def roundZ (v : Sv) (k w : BitVec 32) : Sv := ⟨tmpX v k w + tmpY v, v.a, v.b, v.c, v.d + tmpX v k w, v.e, v.f, v.g⟩
/-- t rounds. -/
def roundsTo (ks ws : List (BitVec 32)) (v : Sv) : Nat → Sv
  | 0 => v
  | t + 1 => roundZ (roundsTo ks ws v t) (ks.getD t 0) (ws.getD t 0)
def addS (s v : Sv) : Sv := ⟨s.a + v.a, s.b + v.b, s.c + v.c, s.d + v.d, s.e + v.e, s.f + v.f, s.g + v.g, s.h + v.h⟩
/-- One block. -/
def compZ' (ks : List (BitVec 32)) (s : Sv) (l : List Int) : Sv := addS s (roundsTo ks (schedTo l 64) s 64)
def iv0 : Sv := ⟨0x6a09e667, 0xbb67ae85, 0x3c6ef372, 0xa54ff53a, 0x510e527f, 0x9b05688c, 0x1f83d9ab, 0x5be0cd19⟩
def ks0 : List (BitVec 32) := [0x428a2f98, 0x71374491, 0xb5c0fbcf, 0xe9b5dba5, 0x3956c25b, 0x59f111f1, 0x923f82a4, 0xab1c5ed5, 0xd807aa98, 0x12835b01, 0x243185be, 0x550c7dc3, 0x72be5d74, 0x80deb1fe, 0x9bdc06a7, 0xc19bf174,
  0xe49b69c1, 0xefbe4786, 0x0fc19dc6, 0x240ca1cc, 0x2de92c6f, 0x4a7484aa, 0x5cb0a9dc, 0x76f988da, 0x983e5152, 0xa831c66d, 0xb00327c8, 0xbf597fc7, 0xc6e00bf3, 0xd5a79147, 0x06ca6351, 0x14292967,
  0x27b70a85, 0x2e1b2138, 0x4d2c6dfc, 0x53380d13, 0x650a7354, 0x766a0abb, 0x81c2c92e, 0x92722c85, 0xa2bfe8a1, 0xa81a664b, 0xc24b8b70, 0xc76c51a3, 0xd192e819, 0xd6990624, 0xf40e3585, 0x106aa070,
  0x19a4c116, 0x1e376c08, 0x2748774c, 0x34b0bcb5, 0x391c0cb3, 0x4ed8aa4a, 0x5b9cca4f, 0x682e6ff3, 0x748f82ee, 0x78a5636f, 0x84c87814, 0x8cc70208, 0x90befffa, 0xa4506ceb, 0xbef9a3f7, 0xc67178f2]
def Sv.toList (v : Sv) : List (BitVec 32) := [v.a, v.b, v.c, v.d, v.e, v.f, v.g, v.h]
/-- Byte i of a sum. -/
def outB (v : Sv) (i : Nat) : Int := wz ((v.toList.getD (i / 4) 0) >>> (24 - 8 * (i % 4))) % 256
/-- What follows 56 bytes: 128, then zeros, then the length in bits. -/
def tail56 : List Int := 128 :: List.replicate 69 0 ++ [1, 192]
/-- The hash of 56 bytes. -/
def sha56 (l : List Int) : List Int := (List.range 32).map (outB (compZ' ks0 (compZ' ks0 iv0 (l ++ tail56.take 8)) (tail56.drop 8)))
example : tail56.length = 72 := by decide
end Go.Lab
/- Journal: the hash's words: rotations, mix. -/
namespace Go.Proofs.YtipbkdlekanlmaaGreatDoor
open Go.RowKit Go.Lab
attribute [local go_sem] Oper.semAt_some
set_option maxRecDepth 100000
theorem rot_neg (i : Nat) (h0 : 0 < i) (h1 : i < 32) : bits .and .u64 (IntKind.u64.wrap (-(i : Int))) 31 = ((32 - i : Nat) : Int) := by
  have : ∀ j : Fin 32, 0 < j.val → bits .and .u64 (IntKind.u64.wrap (-(j.val : Int))) 31 = ((32 - j.val : Nat) : Int) := by decide +kernel
  exact this ⟨i, h1⟩ h0
set_option maxHeartbeats 2000000 in
theorem rotl_any (x : BitVec 32) (i : Nat) (h0 : 0 < i) (h1 : i < 32) (w : World) : Calls Tryz.prog 123 #[.int .u32 (wz x), .int .i64 (-(i : Int))] w fun e w' => e = .returned (.int .u32 (wz (rotr x i))) ∧ w = w' := by
  have hn := rot_neg i h0 h1
  obtain ⟨k, hk⟩ : ∃ k : Nat, k = 32 - i := ⟨_, rfl⟩
  rw [← hk] at hn
  have hk1 : 0 < k ∧ k < 32 := by omega
  have hsub : IntKind.u64.wrap (32 - (k : Int)) = ((i : Nat) : Int) := by
    simp [IntKind.wrap, IntKind.bits, IntKind.signed]
    omega
  have HR := hidep (show (x <<< k ||| x >>> i) = rotr x i from by rw [hk]; exact rotr_comm x i)
  have hmk : min k 32 = k := by omega
  have hmi : min i 32 = i := by omega
  clear hk
  go_enter Tryz.func123, Tryz.ntmps123
  go_wp2
  go_ret
  refine ⟨?_, rfl⟩
  rw [w_shlm, w_shrm, w_or, HR.out]
  rfl
set_option maxHeartbeats 2000000 in
theorem mix_any (x : BitVec 32) (i j k : Nat) (hi : 0 < i ∧ i < 32) (hj : 0 < j ∧ j < 32) (hk : 0 < k ∧ k < 32) (w : World) :
    Calls Tryz.prog 111 #[.int .u32 (wz x), .int .i64 (i : Nat), .int .i64 (j : Nat), .int .i64 (k : Nat)] w fun e w' => e = .returned (.int .u32 (wz (rotr x i ^^^ rotr x j ^^^ rotr x k))) ∧ w = w' := by
  have HR := hidep (fun W n h0 h1 => rotl_any x n h0 h1 W)
  have h1 : IntKind.i64.wrap (-(i : Int)) = -(i : Int) := IntWalk.i64_in _ (by omega)
  have h2 : IntKind.i64.wrap (-(j : Int)) = -(j : Int) := IntWalk.i64_in _ (by omega)
  have h3 : IntKind.i64.wrap (-(k : Int)) = -(k : Int) := IntWalk.i64_in _ (by omega)
  go_enter Tryz.func111, Tryz.ntmps111
  go_wp2_with (first
    | (go_at_call 123; refine (HR.out _ _ (by omega) (by omega)).mono ?_; rintro e w1 ⟨rfl, rfl⟩)
    | fail)
  go_ret
  refine ⟨?_, rfl⟩
  rw [w_xor, w_xor]
  rfl
set_option maxHeartbeats 2000000 in
theorem rotr_any (x : BitVec 32) (i : Nat) (h0 : 0 < i) (h1 : i < 32) (w : World) : Calls Tryz.prog 106 #[.int .u32 (wz x), .int .i64 (i : Nat)] w fun e w' => e = .returned (.int .u32 (wz (rotr x i))) ∧ ∃ d, w' = w.drewN d := by
  have hsub : IntKind.i64.wrap (32 - (i : Int)) = ((32 - i : Nat) : Int) := by rw [IntWalk.i64_in _ (by omega)]; omega
  have hm1 : min i 32 = i := by omega
  obtain ⟨k, hk⟩ : ∃ k : Nat, k = 32 - i := ⟨_, rfl⟩
  rw [← hk] at hsub
  have hm2 : min k 32 = k := by omega
  have HR := hidep (show (x >>> i ||| x <<< k) = rotr x i from by rw [hk]; rfl)
  clear hk
  go_enter Tryz.func106, Tryz.ntmps106
  go_upto_region 1 with (fail)
  go_quiet (fail)
  apply_assumption
  go_wp2
  go_ret
  refine ⟨?_, _, rfl⟩
  rw [w_shlm, w_shrm, w_or, HR.out]
  rfl
end Go.Proofs.YtipbkdlekanlmaaGreatDoor
/- Reader: a function with loops over functions within a loop: the marks among its deferred calls. -/
namespace Go.Lab
open Go Go.RowKit
def markD (r : Nat) : Deferred := { target := .collected r, args := #[] }
/-- The deferred calls ds are marks of finished loops over functions, their blocks open, from lo on, each another. -/
def Marks (lo : Nat) (ds : List Deferred) (w : World) : Prop := ∃ rs : List Nat, ds = rs.map markD ∧ rs.Nodup ∧ ∀ r ∈ rs, lo ≤ r ∧ w.heap[r]? = some (.deferred (some []))
def KeepsM (w w' : World) : Prop := ∀ r : Nat, w.heap[r]? = some (.deferred (some [])) → w'.heap[r]? = some (.deferred (some []))
theorem KeepsM.refl (w : World) : KeepsM w w := fun _ h => h
theorem KeepsM.trans {a b c : World} (h : KeepsM a b) (k : KeepsM b c) : KeepsM a c := fun r hr => k r (h r hr)
theorem KeepsM.below {w w' : World} (h : Below w.heap.size w w') : KeepsM w w' := fun r hr => (h.block r (lt_of_block hr)).trans hr
theorem KeepsM.grown {w w' : World} {b : Nat} {o : Obj} (hg : w.grownBy w' (some b)) (hb : w.heap[b]? = some o) (ho : o ≠ .deferred (some [])) : KeepsM w w' := fun r hr => by
  refine (hg.block r (lt_of_block hr) (fun e => ?_)).trans hr
  injection e with e
  subst e
  rw [hb] at hr
  injection hr with hr
  exact ho hr
theorem Marks.nil (lo : Nat) (w : World) : Marks lo [] w := ⟨[], rfl, List.nodup_nil, fun _ h => by cases h⟩
theorem Marks.kept {lo : Nat} {ds : List Deferred} {w w' : World} (h : Marks lo ds w) (hk : KeepsM w w') : Marks lo ds w' := by
  obtain ⟨rs, h1, h2, h3⟩ := h
  exact ⟨rs, h1, h2, fun r hr => ⟨(h3 r hr).1, hk r (h3 r hr).2⟩⟩
theorem Marks.cons {lo D : Nat} {ds : List Deferred} {w w' : World} (h : Marks lo ds w) (hk : KeepsM w w') (hlo : lo ≤ D) (hD : w.heap.size ≤ D) (hd : w'.heap[D]? = some (.deferred (some []))) :
    Marks lo ({ target := .collected D, args := #[] } :: ds) w' := by
  obtain ⟨rs, h1, h2, h3⟩ := h
  refine ⟨D :: rs, by rw [h1]; rfl, List.nodup_cons.2 ⟨fun hm => ?_, h2⟩, fun r hr => ?_⟩
  · have := lt_of_block (h3 D hm).2; omega
  · rcases List.mem_cons.1 hr with rfl | hr
    · exact ⟨hlo, hd⟩
    · exact ⟨(h3 r hr).1, hk r (h3 r hr).2⟩
theorem leavesM_marks {F : Fence} {n : Nat} {P : Program} {fn : Func} {tmps : Array Value} {R : Ending → World → Prop} {lo : Nat} {w : World} {ds : List Deferred} (hm : Marks lo ds w)
    (h : ∀ w' : World, (∀ (b : Nat) (o : Obj), w.heap[b]? = some o → o.isCells = true → w'.heap[b]? = some o) → Below lo w w' → ∃ v, (results fn tmps).run P w' = .ok v w' ∧ R (.returned v) w') : LeavesInM F n P fn tmps R ds .returning w := by
  obtain ⟨rs, rfl, hnd, hr⟩ := hm
  induction rs generalizing w with
  | nil => exact h w (fun _ _ h _ => h) (Below.refl _ _)
  | cons r rs ih =>
    obtain ⟨hlo, hd⟩ := hr r (List.mem_cons_self ..)
    obtain ⟨hnr, hnd⟩ := List.nodup_cons.1 hnd
    refine ⟨by simp, .inl ⟨r, _, rfl, run_takeDeferred hd, ?_⟩⟩
    have hoth : ∀ b, b ≠ r → (w.putObj r (.deferred none)).heap[b]? = w.heap[b]? := fun b hb => World.putObj_heap_other hb
    have hbl : Below lo w (w.putObj r (.deferred none)) := ⟨rfl, rfl, rfl, by simp, fun b hb => hoth b (by omega)⟩
    refine ih (w := w.putObj r (.deferred none)) (fun w' hc hb => ?_) hnd (fun q hq => ?_)
    · refine h w' (fun b o hbo ho => hc b o ?_ ho) (hbl.trans hb)
      rw [hoth b (fun e => ?_)]
      · exact hbo
      · subst e
        rw [hd] at hbo
        injection hbo with hbo
        subst hbo
        cases ho
    · refine ⟨(hr q (List.mem_cons_of_mem _ hq)).1, ?_⟩
      rw [hoth q (fun e => hnr (e ▸ hq))]
      exact (hr q (List.mem_cons_of_mem _ hq)).2
end Go.Lab
/- A region that draws its order, inside a round of a loop over a function: by the law for a region outside of it. Nothing here speaks of the program. -/
namespace Go.Lab
open Go Go.RowKit
variable {P : Program} {ops : Array Oper} {Q : Exit → Act → World → Prop} {md : Region.Mode}
def noDefer (ops : Array Oper) : Bool := ops.all fun o => match o.op with | .defer _ => false | _ => true
theorem noDefer_spec {ops : Array Oper} (h : noDefer ops = true) {i : Nat} {o : Oper} (hi : ops[i]? = some o) : ∀ c, o.op ≠ .defer c := by
  intro c hc
  obtain ⟨hl, he⟩ := Array.getElem?_eq_some_iff.1 hi
  have := Array.all_eq_true.1 h i hl
  rw [he] at this
  simp [hc] at this
theorem callsIn_round {n l : Nat} {f : FuncId} {args : Array Value} {w : World} {R : Ending → World → Prop} (h : Calls P f args w R) : CallsIn (Fence.wide.inRound l) n P f args w R :=
  CallsIn.inRound l (callsIn_wide.2 h)
theorem oper_round {o : Oper} {K : Act → World → Prop} {a : Act} {w : World} {l n : Nat} (hnd : ∀ c, o.op ≠ .defer c) (h : o.wp P a w K Q) : o.wpIn (Fence.wide.inRound l) n P a w K Q := by
  unfold Oper.wpIn
  refine ⟨fun _ _ => trivial, ?_⟩
  rw [Oper.semAt_eq _ _ _ hnd]
  unfold Oper.wp at h
  generalize (execOp a.eval o).run P w = r at *
  cases r with
  | ok x w' =>
    cases x <;> first
      | exact h
      | exact ⟨fun h => (by cases h), callsIn_round h⟩
      | exact ⟨fun h => (by cases h), fun c cs _ => let ⟨v, w', r, s⟩ := h c cs; ⟨v, w', r, stepsIn_wide.2 s⟩⟩
      | exact h.elim
  | halt x w' => cases x <;> exact h
theorem wpOp_round {K : Act → World → Prop} {a : Act} {w : World} {l n i : Nat} (hnd : noDefer ops = true) (hQ : ¬ LetsOut Q) (h : wpOp P ops Q i K a w) : wpOpIn (Fence.wide.inRound l) n P ops Q i K a w := by
  unfold wpOp at h
  unfold wpOpIn
  cases ho : ops[i]? with
  | none => simpa [ho] using h
  | some o =>
    simp only [ho] at h ⊢
    split
    · rename_i hw
      simp only [hw, if_true] at h
      rcases h with h | h
      · exact oper_round (noDefer_spec hnd ho) h
      · exact absurd h.2 hQ
    · rename_i hw
      simp only [hw] at h
      exact ⟨fun _ _ => trivial, h⟩
theorem wpAny_round {l n : Nat} (hnd : noDefer ops = true) (hQ : ¬ LetsOut Q) : ∀ (fuel : Nat) (listed : Array Bool) (a : Act) (w : World), wpAny P md ops Q fuel listed a w → wpAnyIn (Fence.wide.inRound l) n P md ops Q fuel listed a w
  | 0, _, _, _, h => h
  | fuel + 1, _, _, _, h => ⟨h.1, fun i hi => wpOp_round hnd hQ (wpOp_mono (fun a' w' h' => wpAny_round hnd hQ fuel _ a' w' h') (h.2 i hi))⟩
/-- A region that draws its order, in a round: the walk goes on with 'wpAnyH', from the world behind the draw. -/
theorem wpIn_region_round {S : World → Prop} {a : Act} {w : World} {l n id : Nat} (hm : P.follows .mixedOrders = true) (hnd : noDefer ops = true) (hQ : ¬ LetsOut Q) (hS : S w.drew)
    (h : S w.drew → wpAnyH P .any ops Q S ops.size (Array.replicate ops.size false) a w.drew) : (Code.region id ops true).wpIn (Fence.wide.inRound l) n P Q a w :=
  wpIn_region_any hm (wpAny_round hnd hQ _ _ _ _ (wpAny_of_held _ _ _ _ (h hS)))
/-- The slot number i of a frame. -/
def slot (t : Array Value) (i : Nat) : Value := t.getD i undef
/-- What a loop keeps: of its frame's slots, its marks and the world. -/
def LoopI (n : Nat) (R : Array Value → List Deferred → World → Prop) (a : Act) (w : World) : Prop := a.tmps.size = n ∧ R a.tmps a.defers w
theorem LoopI.mk {n : Nat} {R : Array Value → List Deferred → World → Prop} {a : Act} {w : World} (h : a.tmps.size = n) (hR : R a.tmps a.defers w) : LoopI n R a w := ⟨h, hR⟩
/-- Several new blocks. -/
def allocs (w : World) : List Obj → World
  | [] => w
  | o :: r => allocs (w.alloc o) r
theorem allocs_size (l : List Obj) : ∀ w : World, (allocs w l).heap.size = w.heap.size + l.length := by
  induction l with
  | nil => intro w; rfl
  | cons o r ih => intro w; rw [allocs, ih, World.size_alloc, List.length_cons]; omega
theorem allocs_below (l : List Obj) : ∀ w : World, Below w.heap.size w (allocs w l) := by
  induction l with
  | nil => intro w; exact Below.refl _ _
  | cons o r ih => intro w; exact ((Below.refl _ w).alloc (Nat.le_refl _) o).trans ((ih _).mono (by simp))
theorem allocs_get (l : List Obj) : ∀ (w : World) (i : Nat) (o : Obj), l[i]? = some o → (allocs w l).heap[w.heap.size + i]? = some o := by
  induction l with
  | nil => intro w i o h; cases h
  | cons x r ih =>
    intro w i o h
    cases i with
    | zero =>
      injection h with h
      subst h
      exact ((allocs_below r (w.alloc x)).block _ (by simp)).trans (heap_alloc_new w x)
    | succ i =>
      have := ih (w.alloc x) i o h
      rw [World.size_alloc] at this
      rw [allocs, show w.heap.size + (i + 1) = w.heap.size + 1 + i by omega]
      exact this
end Go.Lab
/- Plain words on walks, gathered from the texts of the Reader seat: what turned, joins, abstractions. No program in sight. -/
namespace Go.Proofs.YtipbkdlekanlmaaGreatDoor
open Go.RowKit Go.Lab
/-- All blocks of before but those of T are as they were. -/
structure Turned (T : Nat → Prop) (w w' : World) : Prop where
  os : w'.os = w.os
  tape : w'.tape = w.tape
  output : w'.output = w.output
  size : w.heap.size ≤ w'.heap.size
  block : ∀ b, b < w.heap.size → ¬ T b → w'.heap[b]? = w.heap[b]?
theorem Turned.refl (T : Nat → Prop) (w : World) : Turned T w w := ⟨rfl, rfl, rfl, Nat.le_refl _, fun _ _ _ => rfl⟩
theorem Turned.trans {T : Nat → Prop} {a b c : World} (h : Turned T a b) (k : Turned T b c) : Turned T a c :=
  ⟨k.os.trans h.os, k.tape.trans h.tape, k.output.trans h.output, Nat.le_trans h.size k.size, fun x hx hT => (k.block x (Nat.lt_of_lt_of_le hx h.size) hT).trans (h.block x hx hT)⟩
theorem Turned.mono {T T' : Nat → Prop} {a b : World} (h : Turned T a b) (hT : ∀ x, x < a.heap.size → T x → T' x) : Turned T' a b :=
  ⟨h.os, h.tape, h.output, h.size, fun x hx hn => h.block x hx (fun ht => hn (hT x hx ht))⟩
theorem Turned.of_below {T : Nat → Prop} {w w' : World} (h : Below w.heap.size w w') : Turned T w w' := ⟨h.os, h.tape, h.output, h.size, fun b hb _ => h.block b hb⟩
theorem Turned.of_grown {T : Nat → Prop} {w w' : World} {x : Nat} (h : w.grownBy w' (some x)) (hx : T x) : Turned T w w' :=
  ⟨h.os, h.tape, h.output, h.size, fun b hb hT => h.block b hb (fun e => by injection e with e; subst e; exact hT hx)⟩
theorem Turned.grown {T : Nat → Prop} {w w' : World} {x : Nat} (h : Turned T w w') (hT : ∀ b, b < w.heap.size → T b → b = x) : w.grownBy w' (some x) :=
  ⟨h.os, h.tape, h.output, h.size, fun b hb hn => h.block b hb (fun ht => hn (by rw [hT b hb ht]))⟩
theorem Turned.cells {T : Nat → Prop} {w w' : World} (h : Turned T w w') {b : Nat} {o : Obj} (hb : w.heap[b]? = some o) (hT : ¬ T b) : w'.heap[b]? = some o := (h.block b (lt_of_block hb) hT).trans hb
theorem Turned.keeps {T : Nat → Prop} {w w' : World} (h : Turned T w w') (hT : ∀ b, T b → ∀ cur t fz, w.heap[b]? ≠ some (.cells cur t fz)) : Keeps (fun _ => True) w w' :=
  ⟨h.size, fun b cur t fz _ hb => h.cells hb (fun ht => hT b ht cur t fz hb)⟩
theorem Turned.drew {T : Nat → Prop} {w w' : World} (h : Turned T w w') : Turned T w w'.drew := ⟨h.os, h.tape, h.output, h.size, h.block⟩
theorem Turned.alloc {T : Nat → Prop} {w w' : World} (h : Turned T w w') (o : Obj) : Turned T w (w'.alloc o) := h.trans (Turned.of_below ((Below.refl _ _).alloc (Nat.le_refl _) o))
theorem Turned.below {T : Nat → Prop} {w w' w'' : World} (h : Turned T w w') (hb : Below w'.heap.size w' w'') : Turned T w w'' := h.trans (Turned.of_below hb)
theorem Turned.setCell {T : Nat → Prop} {w w' : World} (h : Turned T w w') (a : Addr) (v : Value) (ha : w.heap.size ≤ a.block ∨ T a.block) : Turned T w (w'.setCell a v) :=
  ⟨h.os, h.tape, h.output, by simp [World.setCell]; exact h.size, fun b hb hT => (Below.heap_setCell w' a v b (fun e => by subst e; rcases ha with h1 | h1; exact absurd hb (Nat.not_lt.2 h1); exact hT h1)).trans (h.block b hb hT)⟩
theorem Turned.own {T : Nat → Prop} {w W W' : World} {row : Option Nat} (h : Turned T w W) (hg : W.grownBy W' row) (hr : ∀ r, row = some r → w.heap.size ≤ r) : Turned T w W' :=
  ⟨hg.os.trans h.os, hg.tape.trans h.tape, hg.output.trans h.output, Nat.le_trans h.size hg.size, fun b hb hT => (hg.block b (Nat.lt_of_lt_of_le hb h.size) (fun e => absurd hb (Nat.not_lt.2 (hr b e.symm)))).trans (h.block b hb hT)⟩
theorem Turned.from {T : Nat → Prop} {w w' : World} (h : Turned T w w') {B : Nat} (hT : ∀ b, B ≤ b → ¬ T b) : KeepsFrom B w w' := ⟨h.size, fun k _ hk ho _ => h.cells ho (hT k hk)⟩
theorem Turned.cell {T : Nat → Prop} {w w' : World} (h : Turned T w w') {b o : Nat} {v : Value} (hc : w.cell? ⟨b, o, none⟩ = some v) (hT : ¬ T b) : w'.cell? ⟨b, o, none⟩ = some v := by
  have hb : b < w.heap.size := World.block_lt_of_cell? w ⟨b, o, none⟩ hc
  simp only [World.cell?, h.block b hb hT] at hc ⊢
  exact hc
theorem wp_abs {P : Program} {c : Code} {Q : Exit → Act → World → Prop} {a : Act} {w : World} (Pw : World → Prop) (h : Pw w) (k : ∀ w', Pw w' → c.wp P Q a w') : c.wp P Q a w := k w h
theorem wp_cutA {P : Program} {c : Code} {Q : Exit → Act → World → Prop} {a : Act} {w : World} (N : Nat) (R : Array Value → List Deferred → Prop) (hs : a.tmps.size = N) (hR : R a.tmps a.defers) (k : ∀ t ds, t.size = N → R t ds → c.wp P Q { tmps := t, defers := ds } w) : c.wp P Q a w := k _ _ hs hR
theorem Turned.toBelow {w w' : World} (h : Turned (fun _ => False) w w') : Below w.heap.size w w' := ⟨h.os, h.tape, h.output, h.size, fun b hb => h.block b hb id⟩
theorem Turned.lower {T : Nat → Prop} {W0 W w' : World} (h : Turned T W0 W) (hb : Below W0.heap.size W w') : Turned T W0 w' := ⟨hb.os.trans h.os, hb.tape.trans h.tape, hb.output.trans h.output, Nat.le_trans h.size hb.size, fun b h1 h2 => (hb.block b h1).trans (h.block b h1 h2)⟩
theorem grownBy_setC (W : World) (b o : Nat) (v : Value) : W.grownBy (W.setCell ⟨b, o, none⟩ v) (some b) := ⟨rfl, rfl, rfl, by simp [World.setCell], fun k _ hk => Below.heap_setCell W ⟨b, o, none⟩ v k (fun e => hk (by rw [e]))⟩
theorem wpIn_join {F : Fence} {n : Nat} {P : Program} {c : Code} {K : Act → World → Prop} {Q : Exit → Act → World → Prop} {a : Act} {w : World} (M : Act → World → Prop) (h1 : ∀ K' : Act → World → Prop, (∀ a w, M a w → K' a w) → c.wpIn F n P (Exit.then K' Q) a w) (h2 : ∀ a w, M a w → K a w) : c.wpIn F n P (Exit.then K Q) a w := h1 K h2
theorem wpIn_cutA {F : Fence} {n : Nat} {P : Program} {c : Code} {Q : Exit → Act → World → Prop} {a : Act} {w : World} (N : Nat) (R : Array Value → List Deferred → Prop) (hs : a.tmps.size = N) (hR : R a.tmps a.defers) (k : ∀ t ds, t.size = N → R t ds → c.wpIn F n P Q { tmps := t, defers := ds } w) : c.wpIn F n P Q a w := k _ _ hs hR
theorem heap_set {W : World} {b : Nat} {cur : Array Value} {t : TypeId} {f : Nat × Nat} (h : W.heap[b]? = some (.cells cur t f)) (j : Nat) (v : Value) : (W.setCell ⟨b, j, none⟩ v).heap[b]? = some (.cells (cur.setIfInBounds j v) t f) := by
  simp [World.setCell, Array.getElem?_modify, h]
theorem intsC_snoc' (pre : List Int) (x : Int) : intsC (pre ++ [x]) = intsC pre ++ [.int .i64 x] := by simp [intsC]
theorem ownsRow_turned {T : Nat → Prop} {W X : World} {base : Nat} {e : TypeId} {k n : Nat} {v : Value} {xs : List Value} (h : W.ownsRow base e k v n xs) (hT : Turned T W X) (hne : ∀ g, v.ownBlock = some g → ¬ T g) : X.ownsRow base e k v n xs := by
  refine ⟨h.1, ?_⟩
  rcases h.2 with h2 | ⟨g, cap, cur, rfl, hg, hb, r⟩
  · exact .inl h2
  · exact .inr ⟨g, cap, cur, rfl, hg, hT.cells hb (hne g rfl), r⟩
theorem ownsRow_cells {W : World} {base : Nat} {e : TypeId} {k n : Nat} {v : Value} {xs : List Value} (h : W.ownsRow base e k v n xs) {g : Nat} (hg : v.ownBlock = some g) : ∃ cur, W.heap[g]? = some (.cells cur e (0, 0)) := by
  rcases h.2 with ⟨rfl, _⟩ | ⟨g', cap, cur, rfl, _, hb, _⟩
  · cases hg
  · injection hg with hg
    subst hg
    exact ⟨cur, hb⟩
theorem wp_join {P : Program} {c : Code} {K : Act → World → Prop} {Q : Exit → Act → World → Prop} {a : Act} {w : World} (M : Act → World → Prop) (h1 : ∀ K' : Act → World → Prop, (∀ a w, M a w → K' a w) → c.wp P (Exit.then K' Q) a w) (h2 : ∀ a w, M a w → K a w) : c.wp P (Exit.then K Q) a w := h1 K h2
theorem intro_alloc {K : Act → World → Prop} {a : Act} {W : World} {o : Obj} (h : ∀ X, Below W.heap.size W X → X.heap[W.heap.size]? = some o → K a X) : K a (W.alloc o) :=
  h _ ((Below.refl _ _).alloc (Nat.le_refl _) o) (heap_alloc_new _ _)
theorem intro_alloc_drew {K : Act → World → Prop} {a : Act} {W : World} {o : Obj} (h : ∀ X, Below W.heap.size W X → X.heap[W.heap.size]? = some o → K a X) : K a (W.alloc o).drew :=
  h _ (((Below.refl _ _).alloc (Nat.le_refl _) o).drew) (heap_alloc_new _ _)
theorem lit_own {X : World} {B g : Nat} {e : TypeId} {k : Nat} (hX : X.heap[g]? = some (.cells #[] e)) (hB : B ≤ g) : X.ownsRow B e k (.slice (some ⟨g, 0, none⟩) 0 0) 0 [] :=
  ⟨by simp, .inr ⟨g, 0, #[], rfl, hB, hX, Nat.le_refl _, by decide, by simp, by simp⟩⟩
theorem grown_other {W W' : World} {base : Nat} {e : TypeId} {k n : Nat} {v : Value} {xs : List Value} (hown : W.ownsRow base e k v n xs) (hg : W.grownBy W' v.ownBlock) {p : Nat} {cur : Array Value} {t : TypeId} {fz : Nat × Nat} (hP : W.heap[p]? = some (.cells cur t fz)) (hne : t ≠ e) :
    W'.heap[p]? = some (.cells cur t fz) := (Keeps.grown (T := fun x => x = t) hown hg (fun _ h => h ▸ hne)).2 _ _ _ _ rfl hP
theorem below_push {W W' : World} {p : Nat} {o : Obj} (hb : Below W.heap.size W W') (hP : W.heap[p]? = some o) : W'.heap[p]? = some o := (hb.block _ (lt_of_block hP)).trans hP
theorem box_frozen {W : World} {p : Nat} {cur : Array Value} {t : TypeId} (hP : W.heap[p]? = some (.cells cur t)) (j : Nat) : W.frozen? ⟨p, j, none⟩ = false := by simp [World.frozen?, hP]
/-- A row that is not nil has a block. -/
theorem own_block {W : World} {base : Nat} {e : TypeId} {k n : Nat} {v : Value} {xs : List Value} (h : W.ownsRow base e k v n xs) (hn : v ≠ .slice none 0 0) : ∃ g c, v = .slice (some ⟨g, 0, none⟩) n c ∧ base ≤ g ∧ g < W.heap.size := by
  rcases h.2 with ⟨rfl, _⟩ | ⟨g, c, cur, rfl, hb, _⟩
  · exact absurd rfl hn
  · exact ⟨g, c, rfl, hb, (h.lt g rfl).2⟩
theorem box1_cell {w : World} {b : Nat} {x : Value} {t : TypeId} {fz : Nat × Nat} (h : w.heap[b]? = some (.cells #[x] t fz)) : w.cell? ⟨b, 0, none⟩ = some x := by simp [World.cell?, h]
theorem results_cell1 {fn : Func} {p : Tmp} {t1 : TypeId} (h : fn.results = #[.cell p t1]) (tmps : Array Value) (P : Program) (w : World) {b1 : Addr} {v1 : Value}
    (e1 : tmps.getD p undef = .pointer (some b1)) (l1 : (loadVar t1 b1).run P w = .ok v1 w) : (results fn tmps).run P w = .ok v1 w := by
  have e1' : tmps[p]?.getD undef = .pointer (some b1) := by simpa using e1
  simp only [results, h]
  simp [e1', l1, asAddr]
end Go.Proofs.YtipbkdlekanlmaaGreatDoor
/- Journal: arrays of words and of bytes in memory. -/
namespace Go.Proofs.YtipbkdlekanlmaaGreatDoor
open Go.RowKit Go.Lab
def u32C (ws : List (BitVec 32)) : List Value := ws.map fun x => .int .u32 (wz x)
theorem u32C_len (ws : List (BitVec 32)) : (u32C ws).length = ws.length := by simp [u32C]
theorem u32C_one (ws : List (BitVec 32)) : ∀ u ∈ u32C ws, u.oneCell' = true := by
  intro u hu
  obtain ⟨x, _, rfl⟩ := List.mem_map.1 hu
  rfl
/-- An array of words in a block of its own. -/
def ArrW (W : World) (B : Nat) (t : TypeId) (ws : List (BitVec 32)) : Prop := W.heap[B]? = some (.cells (u32C ws).toArray t)
theorem ArrW.get {W : World} {B : Nat} {t : TypeId} {ws : List (BitVec 32)} (h : ArrW W B t ws) {i : Nat} (hi : i < ws.length) : W.cell? ⟨B, i, none⟩ = some (.int .u32 (wz (ws.getD i 0))) := by
  have e : (u32C ws)[i]? = some (.int .u32 (wz (ws.getD i 0))) := by simp [u32C, List.getD, hi]
  unfold ArrW at h
  simp only [World.cell?, h]
  simpa using e
theorem ArrW.free {W : World} {B : Nat} {t : TypeId} {ws : List (BitVec 32)} (h : ArrW W B t ws) (i : Nat) : W.frozen? ⟨B, i, none⟩ = false := by
  unfold ArrW at h
  simp [World.frozen?, h]
theorem ArrW.set {W : World} {B : Nat} {t : TypeId} {ws : List (BitVec 32)} (h : ArrW W B t ws) (i : Nat) (x : BitVec 32) : ArrW (W.setCell ⟨B, i, none⟩ (.int .u32 (wz x))) B t (ws.set i x) := by
  have e := heap_set h i (.int .u32 (wz x))
  unfold ArrW
  rw [e]
  have : (u32C ws).toArray.setIfInBounds i (.int .u32 (wz x)) = (u32C (ws.set i x)).toArray := by
    simp [u32C, List.map_set]
  rw [this]
theorem ArrW.other {W : World} {B c o : Nat} {t : TypeId} {ws : List (BitVec 32)} (h : ArrW W B t ws) (hne : B ≠ c) (v : Value) : ArrW (W.setCell ⟨c, o, none⟩ v) B t ws := (Below.heap_setCell W ⟨c, o, none⟩ v B hne).trans h
theorem ArrW.below {W X : World} {B : Nat} {t : TypeId} {ws : List (BitVec 32)} (h : ArrW W B t ws) (hb : Below W.heap.size W X) : ArrW X B t ws := (hb.block B (lt_of_block h)).trans h
theorem below_set {B : Nat} {a w : World} (h : Below B a w) (ad : Addr) (v : Value) (hb : B ≤ ad.block) : Below B a (w.setCell ad v) :=
  h.trans ⟨rfl, rfl, rfl, by simp [World.setCell], fun k hk => Below.heap_setCell w ad v k (by omega)⟩
theorem below_setCells {B : Nat} {a : World} (b : Nat) (hb : B ≤ b) : ∀ (vs : List Value) (o : Nat) (w : World), Below B a w → Below B a (w.setCells b o vs)
  | [], _, _, h => h
  | v :: r, o, _, h => below_setCells b hb r (o + 1) _ (below_set h ⟨b, o, none⟩ v hb)
theorem range_of_arr {W : World} {b : Nat} {cs : List Value} {t : TypeId} {fz : Nat × Nat} (h : W.heap[b]? = some (.cells cs.toArray t fz)) : W.rangeAt b 0 cs := fun j v hv => by
  rw [Nat.zero_add]
  simp only [World.cell?, h]
  simpa using hv
theorem there_of_arr {W : World} {b n : Nat} {cs : Array Value} {t : TypeId} (h : W.heap[b]? = some (.cells cs t)) (hn : n ≤ cs.size) : W.there b 0 n := fun j hj => by
  constructor
  · have : j < cs.size := by omega
    simp [World.cell?, h, this]
  · simp [World.frozen?, h]
theorem under_row {t : TypeId} (h : (Tryz.prog.underlying t).map TypeDesc.isRow = some true) : ∃ d, Tryz.prog.underlying t = some d ∧ d.isRow = true := by
  cases hq : Tryz.prog.underlying t with
  | none => rw [hq] at h; cases h
  | some d => rw [hq] at h; injection h with h; exact ⟨d, rfl, h⟩
/-- A whole variable is stored. -/
theorem wpList_store_to {P : Program} {w : World} {ops : Array Oper} {rest : List Oper} {op : Oper} {a : Act} {Q : Exit → Act → World → Prop} (hgd : op.guard = none) (ty : TypeId) (x y : Operand) (ho : op.op = .store ty x y)
    (b o : Nat) (cells : Array Value) (hx : a.eval x = .pointer (some ⟨b, o, none⟩)) (hy : a.eval y = .agg cells)
    (ht : w.there b o cells.size) (hi : (P.info? ty).map (·.size) = some cells.size) (h1 : cells.all (·.oneCell') = true) (W2 : World) (hW : w.setCells b o cells.toList = W2)
    (h : wpList P ops Q rest (a.put op.dst undef) W2) : wpList P ops Q (op :: rest) a w := by
  subst hW
  exact wpList_store_mid hgd ty x y ho b o cells hx hy ht hi h1 h
/-- A variable of a type that takes a row, made anew. -/
theorem wpList_alloc_row {P : Program} {t : TypeId} {Z : Array Value} (hz : ∀ w, (zeroValue t).run P w = .ok (.agg Z) w) (w : World) {ops : Array Oper} {rest : List Oper} {o : Oper} {a : Act} {Q : Exit → Act → World → Prop} (hgd : o.guard = none) (ho : o.op = .alloc t)
    (h : wpList P ops Q rest (a.put o.dst (.pointer (some ⟨w.heap.size, 0, none⟩))) (w.alloc (.cells Z t))) : wpList P ops Q (o :: rest) a w := by
  refine wpList_plain hgd fun K hK => ?_
  unfold Oper.wp execOp
  simp [ho, Instr.alloc, hz, newVar, newRow, Value.cells, Result.andThen]
  exact hK _ _ h
/-- A whole row into the block that was made last. -/
theorem wpList_store_last {P : Program} {t : TypeId} {c c' : Array Value} (w : World) (hi : (P.info? t).map (·.size) = some c'.size) (hsz : c.size = c'.size) (h1 : c'.all (·.oneCell') = true) {ops : Array Oper} {rest : List Oper} {o : Oper} {a : Act} {Q : Exit → Act → World → Prop} (hgd : o.guard = none) (x y : Operand) (ho : o.op = .store t x y)
    (hx : a.eval x = .pointer (some ⟨w.heap.size, 0, none⟩)) (hy : a.eval y = .agg c') (h : wpList P ops Q rest (a.put o.dst undef) (w.alloc (.cells c' t))) : wpList P ops Q (o :: rest) a (w.alloc (.cells c t)) := by
  refine wpList_plain hgd fun K hK => ?_
  unfold Oper.wp execOp
  simp only [ho, hx, hy, Sem.run_bind, Sem.run_pure, run_storeAt_new w t c c' hi hsz h1, Result.andThen_ok]
  exact hK _ _ h
theorem zero_u32x64 (w : World) : (zeroValue 161).run Tryz.prog w = .ok (.agg (u32C (List.replicate 64 0)).toArray) w := by kernel_rfl
theorem zero_u32x8 (w : World) : (zeroValue 146).run Tryz.prog w = .ok (.agg (u32C (List.replicate 8 0)).toArray) w := by kernel_rfl
theorem row_u32x64 : (∃ d, Tryz.prog.underlying 161 = some d ∧ d.isRow = true) ∧ (Tryz.prog.info? 161).map (·.size) = some 64 := ⟨under_row (by kernel_rfl), by kernel_rfl⟩
theorem row_u32x8 : (∃ d, Tryz.prog.underlying 146 = some d ∧ d.isRow = true) ∧ (Tryz.prog.info? 146).map (·.size) = some 8 := ⟨under_row (by kernel_rfl), by kernel_rfl⟩
/-- Bytes that are read. -/
def byC (l : List Int) : List Value := l.map (Value.int .u8)
def BytR (w : World) (v : Value) (l : List Int) : Prop := Rd w (fun _ => True) 1 v l.length (byC l) ∧ ∀ x ∈ l, 0 ≤ x ∧ x < 256
theorem BytR.below {w w' : World} {v : Value} {l : List Int} (h : BytR w v l) (hb : Below w.heap.size w w') : BytR w' v l := ⟨h.1.below hb, h.2⟩
theorem byC_get (l : List Int) (i : Nat) (h : i < l.length) : (byC l)[i]? = some (.int .u8 (l.getD i 0)) := by simp [byC, List.getD, h]
end Go.Proofs.YtipbkdlekanlmaaGreatDoor
