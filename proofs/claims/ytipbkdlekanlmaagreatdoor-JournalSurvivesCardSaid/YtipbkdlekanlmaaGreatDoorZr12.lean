/- Journal, plain: numbers as bytes, sectors of a record, what a sector says. No program in sight. -/
import Derived.Test.YtipbkdlekanlmaaGreatDoorZr10
import Derived.Test.YtipbkdlekanlmaaGreatDoorZr02
import Derived.Test.YtipbkdlekanlmaaGreatDoorZr05
import Derived.Test.YtipbkdlekanlmaaGreatDoorZr11
import Derived.RangeFuncNested
import Derived.RangeFuncBound
import Derived.RangeFuncCalls
import Derived.RangeFuncLeaves
import Derived.RangeFuncWrites
import Derived.RangeFuncBox
import Derived.Shelf.Abstract
import Derived.Shelf.RegionOpen
import Derived.OwnWalkIn
import Derived.TacticsInMore
import Derived.LoopNIn
import Derived.LoopIn
import Derived.Laws.BitsAllLaws
namespace Go.Jn
open Go Go.Lab Go.Disk
/-- The number of sectors. -/
def cntZ (n : Int) : Int := if n < 0 ∨ 8000 < n then 0 else max 1 ((n + 47) / 48)
/-- The bytes of a number, the least one first. -/
def leN : Nat → Nat → List Int
  | _, 0 => []
  | n, m + 1 => ((n % 256 : Nat) : Int) :: leN (n / 256) m
/-- The number that bytes denote. -/
def getN : List Int → Int
  | [] => 0
  | x :: r => 256 * getN r + x
/-- The first 56 bytes of sector k. -/
def headB (num k : Nat) (rest : List Int) : List Int := leN num 4 ++ (leN k 2 ++ (leN rest.length 2 ++ (rest.take 48 ++ List.replicate (48 - rest.length) 0)))
def sealB (h : List Int) : List Int := h ++ (sha56 h).take 8
def secB (num : Nat) (T : List Int) (k : Nat) : List Int := sealB (headB num k (T.drop (48 * k)))
def packB (num : Nat) (T : List Int) : List (List Int) := (List.range (cntZ T.length).toNat).map (secB num T)
/-- What a sector says. -/
structure PartZ where
  num : Int
  part : Int
  left : Int
  pay : ByteArray
  ok : Bool
  deriving DecidableEq
def part0 : PartZ := ⟨0, 0, 0, ByteArray.empty, false⟩
def numZ (l : List Int) : Int := getN (l.take 4)
def partNo (l : List Int) : Int := getN ((l.drop 4).take 2)
def leftZ (l : List Int) : Int := getN ((l.drop 6).take 2)
/-- The bytes that the text takes here. -/
def payN (l : List Int) : Nat := (min (leftZ l) 48).toNat
def badZ (l : List Int) : Prop := (sha56 (l.take 56)).take 8 ≠ l.drop 56 ∨ numZ l = 0 ∨ 4096 < numZ l ∨ 8000 < 48 * partNo l + leftZ l ∨ (leftZ l = 0 ∧ 0 < partNo l) ∨ (l.take 56).drop (8 + payN l) ≠ List.replicate (48 - payN l) 0
instance (l : List Int) : Decidable (badZ l) := inferInstanceAs (Decidable (_ ∨ _))
def unpZ (s : ByteArray) : PartZ := if s.size ≠ 64 then part0 else if badZ (nums s) then part0 else ⟨numZ (nums s), partNo (nums s), leftZ (nums s), s.extract 8 (8 + payN (nums s)), true⟩
theorem leN_len : ∀ (m n : Nat), (leN n m).length = m
  | 0, _ => rfl
  | m + 1, n => by rw [leN, List.length_cons, leN_len m]
theorem leN_rng : ∀ (m n : Nat), ∀ x ∈ leN n m, 0 ≤ x ∧ x < 256
  | 0, _, x, h => by cases h
  | m + 1, n, x, h => by
    rcases List.mem_cons.1 h with rfl | h
    · omega
    · exact leN_rng m _ x h
theorem headB_len (num k : Nat) (rest : List Int) : (headB num k rest).length = 56 := by
  simp only [headB, List.length_append, leN_len, List.length_take, List.length_replicate]
  omega
theorem headB_rng (num k : Nat) (rest : List Int) (h : ∀ x ∈ rest, 0 ≤ x ∧ x < 256) : ∀ x ∈ headB num k rest, 0 ≤ x ∧ x < 256 := by
  intro x hx
  simp only [headB, List.mem_append] at hx
  rcases hx with hx | hx | hx | hx | hx
  · exact leN_rng _ _ x hx
  · exact leN_rng _ _ x hx
  · exact leN_rng _ _ x hx
  · exact h x (List.mem_of_mem_take hx)
  · rw [(List.mem_replicate.1 hx).2]; decide
theorem outB_rng (v : Sv) (i : Nat) : 0 ≤ outB v i ∧ outB v i < 256 := by
  unfold outB
  constructor
  · exact Int.emod_nonneg _ (by decide)
  · exact Int.emod_lt_of_pos _ (by decide)
theorem sha_rng (l : List Int) : ∀ x ∈ sha56 l, 0 ≤ x ∧ x < 256 := by
  intro x hx
  unfold sha56 at hx
  obtain ⟨i, _, rfl⟩ := List.mem_map.1 hx
  exact outB_rng _ _
theorem sha_len (l : List Int) : (sha56 l).length = 32 := by simp [sha56]
theorem sealB_rng (h : List Int) (hr : ∀ x ∈ h, 0 ≤ x ∧ x < 256) : ∀ x ∈ sealB h, 0 ≤ x ∧ x < 256 := by
  intro x hx
  rcases List.mem_append.1 hx with hx | hx
  · exact hr x hx
  · exact sha_rng h x (List.mem_of_mem_take hx)
theorem sealB_len (h : List Int) : (sealB h).length = h.length + 8 := by
  rw [sealB, List.length_append, List.length_take, sha_len]
  omega
theorem secB_len (num : Nat) (T : List Int) (k : Nat) : (secB num T k).length = 64 := by rw [secB, sealB_len, headB_len]
theorem secB_rng (num : Nat) (T : List Int) (k : Nat) (h : ∀ x ∈ T, 0 ≤ x ∧ x < 256) : ∀ x ∈ secB num T k, 0 ≤ x ∧ x < 256 := sealB_rng _ (headB_rng _ _ _ (fun x hx => h x (List.mem_of_mem_drop hx)))
theorem cntZ_rng (n : Int) : 0 ≤ cntZ n ∧ cntZ n ≤ 167 := by
  unfold cntZ
  split
  · omega
  · omega
theorem getN_rng : ∀ (l : List Int), (∀ x ∈ l, 0 ≤ x ∧ x < 256) → 0 ≤ getN l ∧ getN l < 256 ^ l.length
  | [], _ => by simp [getN]
  | x :: r, h => by
    have ih := getN_rng r (fun y hy => h y (by simp [hy]))
    have hx := h x (by simp)
    rw [getN, List.length_cons, Int.pow_succ]
    omega
/-- The number, the last byte first. -/
theorem getN_fold (l : List Int) : getN l = l.reverse.foldl (fun a x => 256 * a + x) 0 := by
  rw [List.foldl_reverse]
  induction l with
  | nil => rfl
  | cons x r ih => rw [getN, List.foldr_cons, ih]
end Go.Jn
/- Journal: Count of both. -/
namespace Go.Proofs.YtipbkdlekanlmaaGreatDoor
open Go.RowKit Go.Lab Go.Jn
attribute [local go_sem] Oper.semAt_some
set_option maxRecDepth 100000
theorem count_any (n : Int) (w : World) (h1 : -9223372036854775808 ≤ n) (h2 : n ≤ 9223372036854775807) : Calls Tryz.prog 16 #[.int .i64 n] w fun e w' => e = .returned (.int .i64 (cntZ n)) ∧ w' = w := by
  by_cases hn : n < 0
  · have hc : cntZ n = 0 := by unfold cntZ; rw [if_pos (.inl hn)]
    rw [hc]
    go_enter Tryz.func16, Tryz.ntmps16
    go_wp2
    go_ret
    exact ⟨rfl, rfl⟩
  · by_cases hb : n > 8000
    · have hc : cntZ n = 0 := by unfold cntZ; rw [if_pos (.inr hb)]
      rw [hc]
      go_enter Tryz.func16, Tryz.ntmps16
      go_wp2
      go_ret
      exact ⟨rfl, rfl⟩
    · have hc : cntZ n = max 1 ((n + 47) / 48) := by unfold cntZ; rw [if_neg (by omega)]
      rw [hc]
      have hw1 : IntKind.i64.wrap (n + 48) = n + 48 := IntWalk.i64_in _ (by omega)
      have hw2 : IntKind.i64.wrap (n + 48 - 1) = n + 47 := by rw [IntWalk.i64_in _ (by omega)]; omega
      have hd : Int.tdiv (n + 47) 48 = (n + 47) / 48 := Int.tdiv_eq_ediv_of_nonneg (by omega)
      have hdz : ¬ ((48 : Int) = 0) := by decide
      have hw3 : IntKind.i64.wrap ((n + 47) / 48) = (n + 47) / 48 := IntWalk.i64_in _ (by omega)
      clear hc
      go_enter Tryz.func16, Tryz.ntmps16
      go_wp2
      all_goals
        go_ret
        exact ⟨ret_val (congrArg (Value.int .i64) (by omega)), rfl⟩
theorem countR_any (n : Int) (w : World) (h1 : -9223372036854775808 ≤ n) (h2 : n ≤ 9223372036854775807) : Calls Tryz.prog 56 #[.int .i64 n] w fun e w' => e = .returned (.int .i64 (cntZ n)) ∧ w' = w := by
  by_cases hn : n < 0
  · have hc : cntZ n = 0 := by unfold cntZ; rw [if_pos (.inl hn)]
    rw [hc]
    go_enter Tryz.func56, Tryz.ntmps56
    go_wp2
    go_ret
    exact ⟨rfl, rfl⟩
  · by_cases hb : n > 8000
    · have hc : cntZ n = 0 := by unfold cntZ; rw [if_pos (.inr hb)]
      rw [hc]
      go_enter Tryz.func56, Tryz.ntmps56
      go_wp2
      go_ret
      exact ⟨rfl, rfl⟩
    · by_cases h0 : n = 0
      · subst h0
        go_enter Tryz.func56, Tryz.ntmps56
        go_wp2
        go_ret
        exact ⟨rfl, rfl⟩
      · have hc : cntZ n = (n + 47) / 48 := by unfold cntZ; rw [if_neg (by omega)]; omega
        rw [hc]
        have hw1 : IntKind.i64.wrap (n + 47) = n + 47 := IntWalk.i64_in _ (by omega)
        have hd : Int.tdiv (n + 47) 48 = (n + 47) / 48 := Int.tdiv_eq_ediv_of_nonneg (by omega)
        have hdz : ¬ ((48 : Int) = 0) := by decide
        have hw3 : IntKind.i64.wrap ((n + 47) / 48) = (n + 47) / 48 := IntWalk.i64_in _ (by omega)
        clear hc
        go_enter Tryz.func56, Tryz.ntmps56
        go_wp2
        go_ret
        exact ⟨rfl, rfl⟩
end Go.Proofs.YtipbkdlekanlmaaGreatDoor
/- Journal: the code's put. -/
namespace Go.Proofs.YtipbkdlekanlmaaGreatDoor
open Go.RowKit Go.Lab Go.Jn
attribute [local go_sem] Oper.semAt_some
set_option maxRecDepth 100000
theorem range_map18 (f : Nat → Value) : (List.range 18).map f = [f 0, f 1, f 2, f 3, f 4, f 5, f 6, f 7, f 8, f 9, f 10, f 11, f 12, f 13, f 14, f 15, f 16, f 17] := rfl
theorem frame18 (t : Array Value) (ds : List Deferred) (h : t.size = 18) : ({ tmps := t, defers := ds } : Act) = { tmps := #[slot t 0, slot t 1, slot t 2, slot t 3, slot t 4, slot t 5, slot t 6, slot t 7, slot t 8, slot t 9, slot t 10, slot t 11, slot t 12, slot t 13, slot t 14, slot t 15, slot t 16, slot t 17], defers := ds } := by
  have e : t = ((List.range 18).map (slot t)).toArray := by
    apply Array.ext
    · simp [h]
    · intro i h1 h2
      simp [slot, Array.getD, h1]
  rw [range_map18] at e
  exact congrArg (fun x => ({ tmps := x, defers := ds } : Act)) e
theorem leN_snoc : ∀ (i n : Nat), leN n (i + 1) = leN n i ++ [((n / 256 ^ i % 256 : Nat) : Int)]
  | 0, n => by simp [leN]
  | i + 1, n => by
    rw [leN, leN_snoc i (n / 256), leN, List.cons_append, Nat.div_div_eq_div_mul, Nat.pow_succ, Nat.mul_comm 256]
/-- i bytes of n are written at o. -/
def putL (L : List Int) (o n i : Nat) : List Int := L.take o ++ (leN n i ++ L.drop (o + i))
theorem putL_len (L : List Int) (o n i : Nat) (h : o + i ≤ L.length) : (putL L o n i).length = L.length := by
  simp only [putL, List.length_append, List.length_take, leN_len, List.length_drop]
  omega
theorem putL_zero (L : List Int) (o n : Nat) : putL L o n 0 = L := by simp [putL, leN]
theorem putL_step (L : List Int) (o n i : Nat) (h : o + i < L.length) : (putL L o n i).set (o + i) ((n / 256 ^ i % 256 : Nat) : Int) = putL L o n (i + 1) := by
  unfold putL
  rw [List.set_append_right _ _ (by rw [List.length_take]; omega), List.length_take, Nat.min_eq_left (by omega), show o + i - o = i from by omega, List.set_append_right _ _ (by rw [leN_len]; omega), leN_len, Nat.sub_self, List.drop_eq_getElem_cons h, List.set_cons_zero, leN_snoc, List.append_assoc]
  rfl
def PutI (b o m : Nat) (L : List Int) (n : Nat) (t : TypeId) (w : World) (v s : Value) (wr : World) : Prop := ∃ i : Nat, i ≤ m ∧ s = .int .i64 (i : Nat) ∧ v = .int .i64 ((n / 256 ^ i : Nat) : Int) ∧ wr.heap[b]? = some (.cells (byC (putL L o n i)).toArray t) ∧ Turned (fun k => k = b) w wr
set_option maxHeartbeats 2000000 in
theorem put_any (b o m c : Nat) (L : List Int) (n : Nat) (t : TypeId) (w : World) (hq : w.heap[b]? = some (.cells (byC L).toArray t)) (ho : o + m ≤ L.length) (hm : m ≤ 64) (hn : n < 2 ^ 62) :
    Calls Tryz.prog 91 #[.slice (some ⟨b, o, none⟩) m c, .int .i64 (n : Nat)] w fun e w' => (∃ v, e = .returned v) ∧ w'.heap[b]? = some (.cells (byC (putL L o n m)).toArray t) ∧ Turned (fun k => k = b) w w' := by
  have HN := hidep (And.intro hn ho)
  clear hn ho
  go_enter Tryz.func91, Tryz.ntmps91
  go_upto_region 1 with (fail)
  refine wp_loop (LoopI 18 (fun tm ds wr => (slot tm 0) = .slice (some ⟨b, o, none⟩) m c ∧ (slot tm 6) = .int .i64 (m : Nat) ∧ ds = [] ∧ PutI b o m L n t w (slot tm 1) (slot tm 7) wr)) (fun a' wr => m - natI (a'.tmps.getD 7 undef)) ?mainStart ?mainRound
  case' mainStart => refine LoopI.mk rfl ?_
  case' mainRound => (rintro ⟨t, ds⟩ wr ⟨hts, hrel⟩; dsimp only at hts hrel; rw [frame18 t ds hts])
  case mainStart => exact ⟨rfl, rfl, rfl, 0, Nat.zero_le _, rfl, by rw [Nat.pow_zero, Nat.div_one]; rfl, by rw [putL_zero]; exact hq, Turned.refl _ _⟩
  clear hq
  obtain ⟨h0, h6, hds, i, hi, h7, h1, hq, hT⟩ := hrel
  subst hds
  rw [h0, h1, h6, h7]
  clear h0 h1 h6 h7 hts
  by_cases him : i < m
  · have hii : (i : Int) < (m : Int) := by omega
    obtain ⟨x, hx⟩ : ∃ x, x = n / 256 ^ i := ⟨_, rfl⟩
    rw [← hx]
    have hxn : x < 2 ^ 62 := by rw [hx]; exact Nat.lt_of_le_of_lt (Nat.div_le_self ..) HN.out.1
    have hx2 : n / 256 ^ (i + 1) = x / 256 := by rw [hx, Nat.pow_succ, Nat.div_div_eq_div_mul]
    have hol : o + i < (putL L o n i).length := by rw [putL_len _ _ _ _ (by have := HN.out.2; omega)]; have := HN.out.2; omega
    have hc : wr.cell? ⟨b, o + i, none⟩ = some (.int .u8 ((putL L o n i).getD (o + i) 0)) := by
      have e := byC_get (putL L o n i) (o + i) hol
      simp only [World.cell?, hq]
      simpa using e
    have hf := box_frozen hq (o + i)
    have hs := byArr_set hq (o + i) ((x % 256 : Nat) : Int)
    have hst := putL_step L o n i (by have := HN.out.2; omega)
    rw [← hx] at hst
    rw [hst] at hs
    have hT2 := hT.setCell ⟨b, o + i, none⟩ (.int .u8 ((x % 256 : Nat) : Int)) (.inr rfl)
    have hcast : ((x % 256 : Nat) : Int) = (x : Int) % 256 := by omega
    rw [hcast] at hs hT2
    have HS := hidep (And.intro hs (And.intro hT2 hx2))
    clear hq hs hst hx2 hx hol hT hT2 hcast
    go_wp2
    refine ⟨LoopI.mk rfl ⟨rfl, rfl, rfl, i + 1, by omega, by show Value.int _ _ = _; go_num, by show Value.int _ _ = Value.int _ _; rw [HS.out.2.2]; congr 1, HS.out.1, HS.out.2.1⟩, ?_⟩
    show m - _ < m - _
    simp [natI]; omega
  · have hii : ¬ (i : Int) < (m : Int) := by omega
    have him2 : i = m := by omega
    rw [him2] at hq
    go_wp2
    go_end0
    exact ⟨⟨_, rfl⟩, hq, hT⟩
end Go.Proofs.YtipbkdlekanlmaaGreatDoor
/- Journal: slices.Backward over bytes, and the code's get. -/
namespace Go.Proofs.YtipbkdlekanlmaaGreatDoor
open Go.RowKit Go.Lab Go.Jn
attribute [local go_sem] Oper.semAt_some
set_option maxRecDepth 100000
def idxM : Value → Nat
  | .int _ n => (n + 1).toNat
  | _ => 0
def revN (m : Nat) : List Nat := (List.range m).reverse
theorem revN_succ (m : Nat) : revN (m + 1) = m :: revN m := by simp [revN, List.range_succ]
theorem turned_putObj {T : Nat → Prop} {n : Nat} (hT : ∀ l, n ≤ l → T l) (W : World) (l : Nat) (o o' : Obj) (h : n ≤ l) (_ : W.heap[l]? = some o) (_ : o.isCells = false) (_ : o.isWalk = false) : Turned T W (W.putObj l o') :=
  ⟨rfl, rfl, rfl, by simp, fun b _ hb => World.putObj_heap_other (fun e => hb (e ▸ hT l h))⟩
/-- The iterator's box, and the bytes that it goes over. -/
def BwBox (W : World) (B b o m c : Nat) (S : List Int) (t : TypeId) : Prop := W.heap[B]? = some (.cells #[.slice (some ⟨b, o, none⟩) m c] 81) ∧ W.heap[b]? = some (.cells (byC S).toArray t)
theorem BwBox.turned {W W' : World} {B b o m c : Nat} {S : List Int} {t : TypeId} {T : Nat → Prop} (h : BwBox W B b o m c S t) (hT : Turned T W W') (h1 : ¬ T B) (h2 : ¬ T b) : BwBox W' B b o m c S t := ⟨hT.cells h.1 h1, hT.cells h.2 h2⟩
set_option maxHeartbeats 2000000 in
theorem back1_in (d : Nat) (hd : 1 ≤ d) (l B b o m c : Nat) (S : List Int) (t : TypeId) (T : Nat → Prop) (hTB : ¬ T B) (hTb : ¬ T b) (hom : o + m ≤ S.length) (hm : m ≤ 1000) (J Jx : List Nat → World → Prop)
    (hY : ∀ (pre : List Nat) (x : Nat) (W : World), J pre W → pre.length < m → YieldAt Fence.wide (d - 1) Tryz.prog l #[.int .i64 (x : Nat), .int .u8 (S.getD (o + x) 0)] W fun e W' =>
      (e = .returned (.bool true) ∧ J (pre ++ [x]) W' ∧ Turned T W W') ∨ (e = .returned (.bool false) ∧ Jx (pre ++ [x]) W'))
    (W : World) (hB : BwBox W B b o m c S t) (h0 : J [] W) :
    CallsIn Fence.wide d Tryz.prog 103 #[.func (.yield l) #[] #[], .pointer (some ⟨B, 0, none⟩)] W fun e W' => (∃ v, e = .returned v) ∧
      ((∃ ys, ys = revN m ∧ J ys W') ∨ (∃ pre : List Nat, True ∧ Jx pre W')) := by
  have hc1 := box1_cell hB.1
  have hfw : Fence.wide.fn 103 := trivial
  refine callsIn_of_wp Tryz.func103 rfl hfw ?_ rfl
  simp only [Tryz.ntmps103, List.size_toArray, List.length_cons, List.length_nil, Nat.reduceAdd, Nat.reduceSub, Array.replicate_succ, Array.replicate_zero, List.push_toArray, List.append_toArray, List.nil_append, List.cons_append]
  have hw0 : IntKind.i64.wrap ((m : Int) - 1) = (m : Int) - 1 := IntWalk.i64_in _ (by omega)
  gi_wp2
  clear hc1
  gi_loopw [3] (fun i wr => ∃ (j : Nat) (pre : List Nat), j ≤ m ∧ i = .int .i64 ((j : Int) - 1) ∧ Hid (pre ++ revN j = revN m) ∧ J pre wr ∧ Turned T W wr) (fun i _ => idxM i)
  case atStart => exact ⟨m, [], Nat.le_refl _, rfl, hidep rfl, h0, Turned.refl _ _⟩
  case round =>
    obtain ⟨j, pre, hj, rfl, HP, hJ0, hkp⟩ := hrel
    have hBr := hB.turned hkp hTB hTb
    have hc1 := box1_cell hBr.1
    cases j with
    | zero =>
      have hneg : ¬ (0 : Int) ≤ ((0 : Nat) : Int) - 1 := by decide
      gi_wp2
      have hJe : J (revN m) wr := by
        have := HP.out
        rw [show revN 0 = [] from rfl, List.append_nil] at this
        rw [← this]
        exact hJ0
      go_end0
      exact ⟨⟨_, rfl⟩, .inl hJe⟩
    | succ i =>
      have hsub : ((i + 1 : Nat) : Int) - 1 = (i : Int) := by omega
      rw [hsub]
      have HG := hidep (HP.out.symm.trans (congrArg (pre ++ ·) (revN_succ i)))
      clear HP
      have hlen : pre.length < m := by
        have := congrArg List.length HG.out
        simp [revN] at this
        omega
      have hpos : (0 : Int) ≤ (i : Int) := by omega
      have him : (i : Int) < (m : Int) := by omega
      have hcb : wr.cell? ⟨b, o + i, none⟩ = some (.int .u8 (S.getD (o + i) 0)) := by
        have e := byC_get S (o + i) (by omega)
        simp only [World.cell?, hBr.2]
        simpa using e
      have hwi : IntKind.i64.wrap ((i : Int) - 1) = (i : Int) - 1 := IntWalk.i64_in _ (by omega)
      have hYi := hY pre i wr hJ0 hlen
      obtain ⟨x, hx⟩ : ∃ x, x = S.getD (o + i) 0 := ⟨_, rfl⟩
      rw [← hx] at hYi hcb
      clear hx
      obtain ⟨fn, tmps, assign, body, hy, hR⟩ := hYi
      gi_wp2
      refine hR.mono ?_
      rintro e W3 (⟨rfl, hJ3, hk3⟩ | ⟨rfl, hJx3⟩)
      · gi_wp2
        go_roundw
        case rel => exact ⟨i, pre ++ [i], by omega, rfl, hidep (by rw [HG.out]; simp), hJ3, hkp.trans hk3⟩
        case measure => simp [idxM]
      · gi_wp2
        refine bodyPost_ret (results_none rfl _ _ _) rfl ?_
        exact ⟨⟨_, rfl⟩, .inr ⟨pre ++ [i], trivial, hJx3⟩⟩
/-- A byte of a row. -/
def getU (S : List Int) (i : Nat) : Int := S.getD i 0
theorem back_stops (d : Nat) (hd : 1 ≤ d) (B b o m c : Nat) (S : List Int) (t : TypeId) (T : Nat → Prop) (hTB : ¬ T B) (hTb : ¬ T b) (hom : o + m ≤ S.length) (hm : m ≤ 1000) (w : World) (hB : BwBox w B b o m c S t) :
    SeqStopsK Fence.wide d Tryz.prog 103 #[.pointer (some ⟨B, 0, none⟩)] (fun x : Nat => #[Value.int .i64 (x : Nat), Value.int .u8 (getU S (o + x))]) (Turned T) (fun ys => ys = revN m) (fun _ => True) m w := by
  intro l J Jx W hW _ _ hY h0
  have hbl := lt_of_block hB.1
  have hbl2 := lt_of_block hB.2
  have H := back1_in d hd l B b o m c S t T hTB hTb hom hm J Jx hY W ⟨below_push hW hB.1, below_push hW hB.2⟩ h0
  exact H
set_option maxHeartbeats 1000000 in
theorem back_any (a : Option Addr) (n c : Nat) (w : World) : Calls Tryz.prog 95 #[.slice a n c] w fun e w' => e = .returned (.func (.func 103) #[] #[.pointer (some ⟨w.heap.size, 0, none⟩)]) ∧ w'.heap[w.heap.size]? = some (.cells #[.slice a n c] 81) ∧ w'.heap.size = w.heap.size + 1 ∧ Below w.heap.size w w' := by
  have HB := hidep ((Below.refl w.heap.size w).alloc (Nat.le_refl _) (.cells #[.slice a n c] 81))
  have HO := hidep (heap_alloc_new w (.cells #[.slice a n c] 81))
  go_enter Tryz.func95, Tryz.ntmps95
  go_wp2
  go_ret
  exact ⟨rfl, HO.out, by simp, HB.out⟩
/-- The number so far, the last byte first. -/
def accN (S : List Int) (o : Nat) (pre : List Nat) : Int := pre.foldl (fun a x => 256 * a + getU S (o + x)) 0
theorem accN_snoc (S : List Int) (o : Nat) (pre : List Nat) (x : Nat) : accN S o (pre ++ [x]) = 256 * accN S o pre + getU S (o + x) := by simp [accN]
theorem getU_rng {S : List Int} (h : ∀ x ∈ S, 0 ≤ x ∧ x < 256) (i : Nat) : 0 ≤ getU S i ∧ getU S i < 256 := by
  unfold getU
  rw [List.getD_eq_getElem?_getD]
  cases he : S[i]? with
  | none => simp
  | some v => exact h v (List.mem_of_getElem? he)
theorem accN_rng {S : List Int} (h : ∀ x ∈ S, 0 ≤ x ∧ x < 256) (o : Nat) (pre : List Nat) : 0 ≤ accN S o pre ∧ accN S o pre < 256 ^ pre.length := by
  suffices ∀ (l : List Nat) (a : Int) (n : Nat), 0 ≤ a → a < 256 ^ n → 0 ≤ l.foldl (fun a x => 256 * a + getU S (o + x)) a ∧ l.foldl (fun a x => 256 * a + getU S (o + x)) a < 256 ^ (n + l.length) by
    have := this pre 0 0 (by decide) (by decide)
    rwa [Nat.zero_add] at this
  intro l
  induction l with
  | nil => intro a n h1 h2; exact ⟨h1, h2⟩
  | cons x r ih =>
    intro a n h1 h2
    have hx := getU_rng h (o + x)
    have := ih (256 * a + getU S (o + x)) (n + 1) (by omega) (by rw [Int.pow_succ]; omega)
    rw [List.foldl_cons, List.length_cons, show n + (r.length + 1) = n + 1 + r.length from by omega]
    exact this
theorem accN_rev (S : List Int) (o m : Nat) (h : o + m ≤ S.length) : accN S o (revN m) = getN ((S.drop o).take m) := by
  rw [getN_fold]
  have e : (S.drop o).take m = (List.range m).map (fun x => getU S (o + x)) := by
    apply List.ext_getElem
    · simp; omega
    · intro i h1 h2
      have hi : i < m := by simp at h2; exact h2
      simp [getU, List.getElem?_eq_getElem (show o + i < S.length by omega)]
  rw [e, ← List.map_reverse, List.foldl_map]
  rfl
theorem i64_or_nat' (a b : Nat) (ha : a < 2 ^ 62) (hb : b < 2 ^ 62) : bits .or .i64 (a : Int) (b : Int) = ((a ||| b : Nat) : Int) := by
  show IntKind.i64.wrap ((BitVec.ofInt 64 (a : Int) ||| BitVec.ofInt 64 (b : Int)).toNat : Int) = _
  have hab : a ||| b < 2 ^ 62 := Nat.or_lt_two_pow ha hb
  rw [BitVec.ofInt_natCast, BitVec.ofInt_natCast, BitVec.toNat_or, BitVec.toNat_ofNat, BitVec.toNat_ofNat, Nat.mod_eq_of_lt (by omega), Nat.mod_eq_of_lt (by omega)]
  exact IntWalk.i64_in _ (by omega)
theorem or_add (a b : Int) (h1 : 0 ≤ a) (h2 : a < 2 ^ 40) (h3 : 0 ≤ b) (h4 : b < 256) : bits .or .i64 (a * 256) b = 256 * a + b := by
  obtain ⟨x, rfl⟩ : ∃ x : Nat, a = (x : Int) := ⟨a.toNat, by omega⟩
  obtain ⟨y, rfl⟩ : ∃ y : Nat, b = (y : Int) := ⟨b.toNat, by omega⟩
  have e : ((x : Int) * 256) = ((x * 256 : Nat) : Int) := by omega
  rw [e, i64_or_nat' _ _ (by omega) (by omega)]
  have := Nat.shiftLeft_add_eq_or_of_lt (b := y) (i := 8) (by omega) x
  rw [Nat.shiftLeft_eq] at this
  rw [← this]
  omega
end Go.Proofs.YtipbkdlekanlmaaGreatDoor
/- Journal: the code's get. -/
namespace Go.Proofs.YtipbkdlekanlmaaGreatDoor
open Go.RowKit Go.Lab Go.Jn
attribute [local go_sem] Oper.semAt_some
set_option maxRecDepth 100000
theorem Turned.keepsM {T : Nat → Prop} {w w' : World} (h : Turned T w w') (hT : ∀ b, T b → w.heap[b]? ≠ some (.deferred (some []))) : KeepsM w w' := fun r hr => h.cells hr (fun ht => hT r ht hr)
set_option maxHeartbeats 4000000 in
theorem get_any (b o m c : Nat) (S : List Int) (t : TypeId) (w : World) (hq : w.heap[b]? = some (.cells (byC S).toArray t)) (ho : o + m ≤ S.length) (hm : m ≤ 4) (hr : ∀ x ∈ S, 0 ≤ x ∧ x < 256) :
    Calls Tryz.prog 76 #[.slice (some ⟨b, o, none⟩) m c] w fun e w' => e = .returned (.int .i64 (getN ((S.drop o).take m))) ∧ Below w.heap.size w w' := by
  have hbl := lt_of_block hq
  have hfw : Fence.wide.fn 76 := trivial
  refine (callsIn_wide (n := 8)).1 ?_
  refine callsIn_of_wp_marks Tryz.func76 rfl hfw ?_ rfl
  simp only [Tryz.ntmps76, List.size_toArray, List.length_cons, List.length_nil, Nat.reduceAdd, Nat.reduceSub, Array.replicate_succ, Array.replicate_zero, List.push_toArray, List.append_toArray, List.nil_append, List.cons_append]
  refine wpIn_wide.2 ?_
  have HW := hidep (And.intro hq (And.intro ho (And.intro hm hr)))
  clear hq ho hm hr
  go_upto_region 2 with (fail)
  refine wp_abs (fun X => X.heap[w.heap.size]? = some (.cells #[.int .i64 0] 3) ∧ Below w.heap.size w X) ⟨heap_alloc_new _ _, (Below.refl _ _).alloc (Nat.le_refl _) _⟩ ?_
  rintro X ⟨hqc, hbX⟩
  obtain ⟨C, hC⟩ : ∃ C, C = w.heap.size := ⟨_, rfl⟩
  rw [← hC] at hqc
  rw [← hC]
  have HC := hidep (And.intro hC (show b < C from by omega))
  clear hC
  go_wp2_with (first
    | (go_at_call 95; refine (back_any _ _ _ _).mono ?_; rintro e w7 ⟨rfl, hB7, hs7, hb7⟩)
    | fail)
  have hq7 := below_push hb7 hqc
  have hw7 := hbX.trans (hb7.mono hbX.size)
  have hCX := lt_of_block hqc
  have hbx := hbX.size
  have hfc : Fence.wide.fn 103 := trivial
  have hbC := HC.out.2
  have hb7q := below_push hb7 ((hbX.block b hbl).trans HW.out.1)
  refine (wpIn_wide (n := 8)).1 ?_
  refine wpIn_rangeFunc_ownG rfl (by omega) (gf := 103) (lb := _) rfl hfc (enters_of Tryz.func103 (by kernel_rfl) rfl) (back_stops (8 - 1) (by omega) X.heap.size b o m c S t (fun k => k = C ∨ w7.heap.size ≤ k) (by omega) (by omega) HW.out.2.1 (by have := HW.out.2.2.1; omega) w7 ⟨hB7, hb7q⟩) (fun h k => Turned.trans h k) (turned_putObj (n := w7.heap.size) (by intro l hl; exact .inr hl)) (Below.refl _ _) (fun _ => rfl)
    (fun pre W => W.heap[C]? = some (.cells #[.int .i64 (accN S o pre)] 3) ∧ Turned (fun k => k = C) w7 W)
    (fun _ _ _ => False)
    (fun st A B row hs hg hr => ⟨(hg.block C (lt_of_block hs.1) (fun e => by have := (hr _ e.symm).1; omega)).trans hs.1, hs.2.own hg (fun r e => (hr r e).1)⟩)
    (fun cd st A B row hs hg hr => hs)
    ⟨hq7, Turned.refl _ _⟩
    ?a1 ?assign ?body ?done ?stop
  case assign =>
    intro l x W K hK
    gi_wp2
    exact hK
  case stop =>
    rintro D cd pre W hD _ h
    exact h.elim
  case body =>
    rintro l pre x W ⟨hcW, hTW⟩ hlen
    have hacc := accN_rng HW.out.2.2.2 o pre
    have hx := getU_rng HW.out.2.2.2 (o + x)
    have hp4 : (256 : Int) ^ pre.length ≤ 256 ^ 3 := by
      have := HW.out.2.2.1
      have h3 : pre.length = 0 ∨ pre.length = 1 ∨ pre.length = 2 ∨ pre.length = 3 := by omega
      rcases h3 with h | h | h | h <;> rw [h] <;> decide
    have hsn := accN_snoc S o pre x
    obtain ⟨A, hA⟩ : ∃ A, A = accN S o pre := ⟨_, rfl⟩
    obtain ⟨y, hy⟩ : ∃ y, y = getU S (o + x) := ⟨_, rfl⟩
    rw [← hA] at hacc hcW hsn
    rw [← hy] at hx hsn
    rw [← hy]
    have HSN := hidep hsn
    have hor := or_add A y hacc.1 (by omega) hx.1 hx.2
    have hwA : IntKind.i64.wrap (A * 256) = A * 256 := IntWalk.i64_in _ (by omega)
    have hwy : IntKind.i64.wrap y = y := IntWalk.i64_in _ (by omega)
    have hcc := box1_cell hcW
    have hcf := box_frozen hcW 0
    clear hA hy hsn hp4
    gi_wp2
    have hTs := (Turned.refl (fun k => k = C) W).setCell ⟨C, 0, none⟩ (.int .i64 (256 * A + y)) (.inr rfl)
    exact ⟨hTs.from (fun k hk e => by have e : k = C := e; omega), hTs.mono (fun k _ e => .inl e), by rw [HSN.out]; exact heap_set hcW 0 _, hTW.trans (hTs.mono (fun k _ e => e))⟩
  case done =>
    rintro D ys W hD hys ⟨hcW, hTW⟩ hK
    rw [hys, accN_rev S o m HW.out.2.1] at hcW
    obtain ⟨A, hA⟩ : ∃ A, A = getN ((S.drop o).take m) := ⟨_, rfl⟩
    rw [← hA] at hcW
    have HA := hidep hA
    have hcc := box1_cell hcW
    have hM : Marks w7.heap.size [{ target := .collected D, args := #[] }] W := (Marks.nil w7.heap.size w7).cons (hTW.keepsM (fun k hk e => by have hk : k = C := hk; rw [hk, hq7] at e; cases e)) hD hD hK
    have HM := hidep hM
    have HWW := hidep (show Below w.heap.size w W from hw7.trans ⟨hTW.os, hTW.tape, hTW.output, hTW.size, fun k hk => hTW.block k (by have := hw7.size; omega) (by have := HC.out.1; show ¬ k = C; omega)⟩)
    have HSZ := hidep hw7.size
    clear hA hM
    (try dsimp only [Exit.inBlock, Exit.then])
    apply_assumption
    go_wp2
    refine leavesM_marks (lo := w7.heap.size) HM.out (fun w' hc hb => ?_)
    exact ⟨_, results_tmp rfl _ _ _, by show Ending.returned (Value.int .i64 A) = _; rw [HA.out], HWW.out.trans (hb.mono HSZ.out)⟩
end Go.Proofs.YtipbkdlekanlmaaGreatDoor
