/- Contract: the reference's Valid of tables. -/
import Derived.Test.YtcfjepcflanjbaaGreatBr02
import Derived.Test.YtcfjepcflanjbaaGreatBr05
import Derived.Test.YtcfjepcflanjbaaGreatBr01
import Derived.Laws.IdiomStrings
namespace Go.Proofs.YtcfjepcflanjbaaGreat
open Go.RowKit Go.Lab Go.Shelf
set_option maxRecDepth 100000
theorem zq59 (t : Array Value) (ds : List Deferred) (h : t.size = 136) : ({ tmps := t, defers := ds } : Act) = { tmps := #[slot t 0, slot t 1, slot t 2, slot t 3, slot t 4, slot t 5, slot t 6, slot t 7, slot t 8, slot t 9, slot t 10, slot t 11, slot t 12, slot t 13, slot t 14, slot t 15, slot t 16, slot t 17, slot t 18, slot t 19, slot t 20, slot t 21, slot t 22, slot t 23, slot t 24, slot t 25, slot t 26, slot t 27, slot t 28, slot t 29, slot t 30, slot t 31, slot t 32, slot t 33, slot t 34, slot t 35, slot t 36, slot t 37, slot t 38, slot t 39, slot t 40, slot t 41, slot t 42, slot t 43, slot t 44, slot t 45, slot t 46, slot t 47, slot t 48, slot t 49, slot t 50, slot t 51, slot t 52, slot t 53, slot t 54, slot t 55, slot t 56, slot t 57, slot t 58, slot t 59, slot t 60, slot t 61, slot t 62, slot t 63, slot t 64, slot t 65, slot t 66, slot t 67, slot t 68, slot t 69, slot t 70, slot t 71, slot t 72, slot t 73, slot t 74, slot t 75, slot t 76, slot t 77, slot t 78, slot t 79, slot t 80, slot t 81, slot t 82, slot t 83, slot t 84, slot t 85, slot t 86, slot t 87, slot t 88, slot t 89, slot t 90, slot t 91, slot t 92, slot t 93, slot t 94, slot t 95, slot t 96, slot t 97, slot t 98, slot t 99, slot t 100, slot t 101, slot t 102, slot t 103, slot t 104, slot t 105, slot t 106, slot t 107, slot t 108, slot t 109, slot t 110, slot t 111, slot t 112, slot t 113, slot t 114, slot t 115, slot t 116, slot t 117, slot t 118, slot t 119, slot t 120, slot t 121, slot t 122, slot t 123, slot t 124, slot t 125, slot t 126, slot t 127, slot t 128, slot t 129, slot t 130, slot t 131, slot t 132, slot t 133, slot t 134, slot t 135], defers := ds } :=
  (congrArg (fun x => ({ tmps := x, defers := ds } : Act)) (zq1e h)).trans (by kernel_rfl)
def natI : Value -> Nat
  | .int _ n => n.toNat
  | _ => 0
structure TabOk (T : TabZ) : Prop where
  r0 : ∀ r ∈ T.l0, zq3e r
  r1 : ∀ r ∈ T.l1, zq3e r
  n0 : T.l0.length <= 100000
  n1 : T.l1.length <= 100000
def TabZ.at (T : TabZ) (k : Nat) : List RuleZ := if k = 0 then T.l0 else T.l1
def TbX (w0 : World) (V : TabV) (Bx : Nat) (X : World) : Prop := Below w0.heap.size w0 X /\ X.heap[Bx]? = some (.cells #[V.a, V.b, V.d, V.c, V.n, V.e, V.s] 29)
theorem TbX.below {w0 X X' : World} {V : TabV} {Bx : Nat} (h : TbX w0 V Bx X) (hb : Below X.heap.size X X') : TbX w0 V Bx X' := ⟨h.1.trans (hb.mono h.1.size), zq0 hb h.2⟩
theorem TbX.at {w0 X : World} {V : TabV} {T : TabZ} {Bx : Nat} (h : TbX w0 V Bx X) (hT : TabIn w0 V T) {k : Nat} (hk : k < 2) : ∃ a c, X.cell? ⟨Bx, k, none⟩ = some (.slice a (T.at k).length c) /\ RulesAt X (.slice a (T.at k).length c) (T.at k) /\ (T.at k).length <= c /\ c <= maxLen := by
  have hT' := hT.below h.1
  rcases (by omega : k = 0 \/ k = 1) with rfl | rfl
  · obtain ⟨a, c, ha, h1, h2⟩ := hT'.r0.form
    refine ⟨a, c, ?_, ?_, h1, h2⟩
    · rw [show (T.at 0).length = T.l0.length from rfl, <- ha]
      simp [World.cell?, h.2]
    · show RulesAt X (.slice a T.l0.length c) T.l0
      rw [<- ha]
      exact hT'.r0
  · obtain ⟨a, c, ha, h1, h2⟩ := hT'.r1.form
    refine ⟨a, c, ?_, ?_, h1, h2⟩
    · rw [show (T.at 1).length = T.l1.length from rfl, <- ha]
      simp [World.cell?, h.2]
    · show RulesAt X (.slice a T.l1.length c) T.l1
      rw [<- ha]
      exact hT'.r1
theorem TbX.at2 {w0 : World} {V : TabV} {T : TabZ} (Bx : Nat) (hT : TabIn w0 V T) {k : Nat} (hk : k < 2) : ∃ a c, (∀ X, TbX w0 V Bx X -> X.cell? ⟨Bx, k, none⟩ = some (.slice a (T.at k).length c) /\ RulesAt X (.slice a (T.at k).length c) (T.at k)) /\ (T.at k).length <= c /\ c <= maxLen := by
  rcases (by omega : k = 0 \/ k = 1) with rfl | rfl
  · obtain ⟨a, c, ha, h1, h2⟩ := hT.r0.form
    refine ⟨a, c, fun X h => ⟨?_, ?_⟩, h1, h2⟩
    · rw [show (T.at 0).length = T.l0.length from rfl, <- ha]
      simp [World.cell?, h.2]
    · show RulesAt X (.slice a T.l0.length c) T.l0
      rw [<- ha]
      exact (hT.below h.1).r0
  · obtain ⟨a, c, ha, h1, h2⟩ := hT.r1.form
    refine ⟨a, c, fun X h => ⟨?_, ?_⟩, h1, h2⟩
    · rw [show (T.at 1).length = T.l1.length from rfl, <- ha]
      simp [World.cell?, h.2]
    · show RulesAt X (.slice a T.l1.length c) T.l1
      rw [<- ha]
      exact (hT.below h.1).r1
theorem TabOk.at {T : TabZ} (h : TabOk T) (k : Nat) : (∀ r ∈ T.at k, zq3e r) /\ (T.at k).length <= 100000 := by
  unfold TabZ.at
  split
  · exact ⟨h.r0, h.n0⟩
  · exact ⟨h.r1, h.n1⟩
def VL1 (T : TabZ) (w0 : World) (V : TabV) (Bx : Nat) (kv : Value) (wr : World) : Prop := ∃ k : Nat, k <= 2 /\ kv = .int .i64 (k : Nat) /\ (∀ j, j < k -> (T.at j).length <= 96) /\ TbX w0 V Bx wr
def VL2 (T : TabZ) (w0 : World) (V : TabV) (Bx : Nat) (kv : Value) (wr : World) : Prop := ∃ k : Nat, k <= 2 /\ kv = .int .i64 (k : Nat) /\ (∀ j, j < k -> (T.at j).all zqf = true) /\ TbX w0 V Bx wr
def VL2i (L : List RuleZ) (w0 : World) (V : TabV) (Bx : Nat) (iv : Value) (wr : World) : Prop := ∃ i : Nat, i <= L.length /\ iv = .int .i64 (i : Nat) /\ (L.take i).all zqf = true /\ TbX w0 V Bx wr
def VL3 (T : TabZ) (w0 : World) (V : TabV) (Bx : Nat) (kv : Value) (wr : World) : Prop := ∃ k : Nat, k <= 2 /\ kv = .int .i64 (k : Nat) /\ (∀ j, j < k -> zq22 (T.at j) = false) /\ TbX w0 V Bx wr
def VL4 (T : TabZ) (w0 : World) (V : TabV) (Bx : Nat) (kv : Value) (wr : World) : Prop := ∃ k : Nat, k <= 2 /\ kv = .int .i64 (k : Nat) /\ (∀ j, j < k -> zq23.all (ownB (T.at j)) = true) /\ TbX w0 V Bx wr
def VL4c (L : List RuleZ) (cv : Value) : Prop := ∃ m : Nat, m <= 26 /\ cv = .int .i64 (97 + (m : Nat)) /\ ∀ m', m' < m -> ownB L (97 + (m' : Int)) = true
theorem zq71 {a b : ByteArray} (h : a.toList = b.toList) : a = b := by
  rw [ByteArray.toList_eq, ByteArray.toList_eq] at h
  exact ByteArray.ext (Array.toList_inj.1 h)
def NoTw (L : List RuleZ) (i : Nat) : Prop := ∀ j, j < i -> sameR (L.getD i rule0) (L.getD j rule0) = false
def VL3i (L : List RuleZ) (iv : Value) : Prop := ∃ i : Nat, i <= L.length /\ iv = .int .i64 (i : Nat) /\ ∀ i', i' < i -> NoTw L i'
def VL3j (L : List RuleZ) (i : Nat) (jv : Value) : Prop := ∃ j : Nat, j <= i /\ jv = .int .i64 (j : Nat) /\ ∀ j', j' < j -> sameR (L.getD i rule0) (L.getD j' rule0) = false
theorem zqa8 {L : List RuleZ} {i : Nat} (p : RuleZ -> Bool) (hi : i <= L.length) : (L.take i).any p = true ↔ ∃ j, j < i /\ p (L.getD j rule0) = true := by
  rw [List.any_eq_true]
  constructor
  · rintro ⟨x, hx, hp⟩
    obtain ⟨j, hj, rfl⟩ := List.getElem_of_mem hx
    rw [List.length_take] at hj
    refine ⟨j, by omega, ?_⟩
    rw [List.getElem_take] at hp
    rw [List.getD_eq_getElem?_getD, List.getElem?_eq_getElem (by omega)]
    exact hp
  · rintro ⟨j, hj, hp⟩
    rw [List.getD_eq_getElem?_getD, List.getElem?_eq_getElem (by omega)] at hp
    exact ⟨L[j], List.mem_take_iff_getElem.2 ⟨j, by omega, rfl⟩, hp⟩
theorem twice_true {L : List RuleZ} {i j : Nat} (hi : i < L.length) (hj : j < i) (h : sameR (L.getD i rule0) (L.getD j rule0) = true) : zq22 L = true := by
  unfold zq22
  rw [List.any_eq_true]
  exact ⟨i, List.mem_range.2 hi, (zqa8 _ (by omega)).2 ⟨j, hj, h⟩⟩
theorem zq9c {L : List RuleZ} (h : ∀ i, i < L.length -> NoTw L i) : zq22 L = false := by
  unfold zq22
  rw [List.any_eq_false]
  intro i hi ha
  have hi := List.mem_range.1 hi
  obtain ⟨j, hj, hp⟩ := (zqa8 _ (by omega)).1 ha
  rw [h i hi j hj] at hp
  cases hp
set_option maxHeartbeats 4000000 in
theorem validR_any (V : TabV) (T : TabZ) (w : World) (hT : TabIn w V T) (hok : TabOk T) :
    Calls Tryz.prog 33 #[V.v] w fun e w' => e = .returned (.int .i64 (zq8 T)) /\ Below w.heap.size w w' := by
  have HT := hidep hT
  have HOK := hidep hok
  obtain ⟨da, dc, hd, _, _⟩ := hT.dg.1.form
  obtain ⟨ca, cc, hc, _, _⟩ := hT.cp.1.form
  obtain ⟨na, nc, hn, _, _⟩ := hT.nm.1.form
  obtain ⟨ea, ec, he, _, _⟩ := hT.en.1.form
  obtain ⟨sa, sc, hs, _, _⟩ := hT.sw.1.form
  have HVF := hidep (And.intro hd (And.intro hc (And.intro hn (And.intro he hs))))
  clear hT hok hd hc hn he hs
  go_enter Tryz.func33, Tryz.ntmps33
  go_upto_region 1 with (fail)
  obtain ⟨Bx, hBx⟩ : ∃ B, B = w.heap.size := ⟨_, rfl⟩
  refine zq9 (fun X => TbX w V Bx X) ⟨(Below.refl _ _).alloc (Nat.le_refl _) _, by rw [hBx]; exact heap_alloc_new _ _⟩ ?_
  rw [<- hBx]
  clear hBx
  rintro X1 hX1
  have HG := hidep (show VL1 T w V Bx (.int .i64 0) X1 from ⟨0, by omega, rfl, fun j hj => by omega, hX1⟩)
  clear hX1
  go_upto_region 2 with (fail)
  refine wp_loop (LoopI 136 (fun tm ds wr => (slot tm 1) = .pointer (some ⟨Bx, 0, none⟩) /\ ds = [] /\ VL1 T w V Bx (slot tm 3) wr)) (fun a' wr => 2 - natI (a'.tmps.getD 3 undef)) ?l1Start ?l1Round
  case' l1Start => refine LoopI.mk rfl ?_
  case' l1Round => (rintro ⟨t, ds⟩ wr ⟨hts, hrel⟩; dsimp only at hts hrel; rw [zq59 t ds hts])
  case l1Start => exact ⟨rfl, rfl, HG.out⟩
  clear HG
  obtain ⟨e1, hds, k, hk2, e3, hlen, hX⟩ := hrel
  subst hds
  rw [e1, e3]
  clear e1 e3 hts
  by_cases hk : k < 2
  · have hki : (k : Int) < 2 := by omega
    have hk0 : (0 : Int) <= (k : Int) := by omega
    obtain ⟨ra, rc, hcell, hrows, hrl, hrc⟩ := hX.at HT.out hk
    have HROW := hidep hrows
    have hrn := (HOK.out.at k).2
    obtain ⟨rn, hrnd⟩ : ∃ rn, rn = (T.at k).length := ⟨_, rfl⟩
    rw [<- hrnd] at hcell hrl hrn
    unfold maxLen at hrc
    by_cases h96 : rn <= 96
    · have g1 : ¬ (rn : Int) > 96 := by omega
      have HL := hidep (show ∀ j, j < k + 1 -> (T.at j).length <= 96 from fun j hj => by
        rcases (by omega : j < k \/ j = k) with h | rfl
        · exact hlen j h
        · rw [<- hrnd]; exact h96)
      clear hlen hrnd hrows h96
      go_wp2
      refine ⟨LoopI.mk rfl ⟨rfl, rfl, k + 1, by omega, by show Value.int _ _ = _; go_num, HL.out, hX⟩, ?_⟩
      show 2 - _ < 2 - _
      simp [natI]; omega
    · have g1 : (rn : Int) > 96 := by omega
      have HE := hidep (show zq8 T = 4 from by
        unfold zq8
        rw [if_pos]
        rcases (by omega : k = 0 \/ k = 1) with rfl | rfl
        · left; rw [hrnd] at h96; unfold TabZ.at at h96; simp at h96; omega
        · right; rw [hrnd] at h96; unfold TabZ.at at h96; simp at h96; omega)
      clear hlen hrnd hrows h96
      go_wp2
      go_ret
      exact ⟨by rw [HE.out]; rfl, hX.1⟩
  · have hki : ¬ (k : Int) < 2 := by omega
    have hL96 : T.l0.length <= 96 /\ T.l1.length <= 96 := ⟨hlen 0 (by omega), hlen 1 (by omega)⟩
    have HV := hidep (show zq8 T = if (T.l0.all zqf && (T.l1.all zqf && (zqc T.dg 10 10 && (zqc T.cp 1 4 && (zqc T.nm 1 4 && (zqc T.en 1 4 && zqc T.sw 1 4)))))) = false then 1
      else if (zq22 T.l0 || zq22 T.l1) = true then 7
      else if (zq23.all (ownB T.l0) && zq23.all (ownB T.l1)) = false then 6
      else 0 from by
      unfold zq8
      rw [if_neg (by omega)])
    have HG := hidep (show VL2 T w V Bx (.int .i64 0) wr from ⟨0, by omega, rfl, fun j hj => by omega, hX⟩)
    clear hlen hL96 hX hk hk2
    go_upto_region 7 with (fail)
    clear hki
    refine wp_loop (LoopI 136 (fun tm ds wr => (slot tm 1) = .pointer (some ⟨Bx, 0, none⟩) /\ ds = [] /\ VL2 T w V Bx (slot tm 4) wr)) (fun a' wr => 2 - natI (a'.tmps.getD 4 undef)) ?l2Start ?l2Round
    case' l2Start => refine LoopI.mk rfl ?_
    case' l2Round => (rintro ⟨t, ds⟩ wr ⟨hts, hrel⟩; dsimp only at hts hrel; rw [zq59 t ds hts])
    case l2Start => exact ⟨rfl, rfl, HG.out⟩
    clear HG
    obtain ⟨e1, hds, k, hk2, e4, hall, hX⟩ := hrel
    subst hds
    rw [e1, e4]
    clear e1 e4 hts
    by_cases hk : k < 2
    · have hki : (k : Int) < 2 := by omega
      have hk0 : (0 : Int) <= (k : Int) := by omega
      have HALL := hidep hall
      have HKK := hidep hk
      obtain ⟨L, hL⟩ : ∃ L, L = T.at k := ⟨_, rfl⟩
      have HL := hidep hL
      have HG := hidep (show VL2i L w V Bx (.int .i64 0) wr from ⟨0, Nat.zero_le _, rfl, rfl, hX⟩)
      have HX := hidep hX
      clear hall hX hL
      go_upto_region 10 with (fail)
      refine wp_loop (LoopI 136 (fun tm ds wr => (slot tm 1) = .pointer (some ⟨Bx, 0, none⟩) /\ (slot tm 4) = .int .i64 (k : Nat) /\ ds = [] /\ VL2i L w V Bx (slot tm 5) wr)) (fun a' wr => L.length - natI (a'.tmps.getD 5 undef)) ?l2iStart ?l2iRound
      case' l2iStart => refine LoopI.mk rfl ?_
      case' l2iRound => (rintro ⟨t, ds⟩ wr ⟨hts, hrel⟩; dsimp only at hts hrel; rw [zq59 t ds hts])
      case l2iStart => exact ⟨rfl, rfl, rfl, HG.out⟩
      clear HG
      obtain ⟨e1, e4, hds, i, hi, e5, hall, hX⟩ := hrel
      subst hds
      rw [e1, e4, e5]
      clear e1 e4 e5 hts
      obtain ⟨ra, rc, hcell, hrows, hrl, hrc⟩ := hX.at HT.out hk
      rw [<- HL.out] at hcell hrows hrl
      unfold maxLen at hrc
      have hok2 := HOK.out.at k
      rw [<- HL.out] at hok2
      have hLn := hok2.2
      by_cases hil : i < L.length
      · have hili : (i : Int) < (L.length : Int) := by omega
        have hi0 : (0 : Int) <= (i : Int) := by omega
        obtain ⟨b, off, ua, un, uc, rfl, hb, hc0, hc1, hc2, hu⟩ := zq4e hrows hil
        have hrok := hok2.1 _ (List.getElem_mem hil)
        have HTK := hidep (zq75 zqf L i hil hall)
        have HTF := hidep (zq69 zqf L i hil)
        obtain ⟨y, hy⟩ : ∃ y, y = L[i] := ⟨_, rfl⟩
        rw [<- hy] at hc0 hc1 hu hrok HTK HTF
        have HR := hidep (rightR_any y (.slice ua un uc) wr hu hrok.1)
        obtain ⟨rn, hrnd⟩ : ∃ rn, rn = L.length := ⟨_, rfl⟩
        rw [<- hrnd] at hcell hrl hili hLn
        have HRN := hidep hrnd
        have HXX := hidep hX
        clear hy hu hrok hrows hok2 hall hrnd hX
        obtain ⟨s, wh, cl⟩ := y
        simp only at hc0 hc1 HR
        cases hp : zqf ⟨s, wh, cl⟩ with
        | true =>
          rw [hp] at HR HTK
          clear hp
          go_wp2_with (go_at_call 68; refine HR.out.mono ?_; rintro e w1 ⟨rfl, hb1⟩)
          refine ⟨LoopI.mk rfl ⟨rfl, rfl, rfl, i + 1, by rw [<- HRN.out]; omega, by show Value.int _ _ = _; go_num, HTK.out, HXX.out.below hb1⟩, ?_⟩
          show L.length - _ < L.length - _
          rw [<- HRN.out]
          simp [natI]; omega
        | false =>
          rw [hp] at HR
          have HE := hidep (show zq8 T = 1 from by
            rw [HV.out, if_pos]
            have hf := HTF.out hp
            rw [HL.out] at hf
            rcases (by have := HKK.out; omega : k = 0 \/ k = 1) with rfl | rfl
            · have hf : T.l0.all zqf = false := hf
              rw [hf, Bool.false_and]
            · have hf : T.l1.all zqf = false := hf
              rw [hf, Bool.false_and, Bool.and_false])
          clear hp
          go_wp2_with (go_at_call 68; refine HR.out.mono ?_; rintro e w1 ⟨rfl, hb1⟩)
          go_ret
          exact ⟨by rw [HE.out]; rfl, (HXX.out.below hb1).1⟩
      · have hili : ¬ (i : Int) < (L.length : Int) := by omega
        have hin : i = L.length := by omega
        rw [hin, List.take_length] at hall
        have HA := hidep (show ∀ j, j < k + 1 -> (T.at j).all zqf = true from fun j hj => by
          rcases (by omega : j < k \/ j = k) with h | rfl
          · exact HALL.out j h
          · rw [<- HL.out]; exact hall)
        clear hall hin hi hrows hok2
        go_wp2
        refine ⟨LoopI.mk rfl ⟨rfl, rfl, k + 1, by omega, by show Value.int _ _ = _; go_num, HA.out, hX⟩, ?_⟩
        show 2 - _ < 2 - _
        simp [natI]; omega
    · have hki : ¬ (k : Int) < 2 := by omega
      have hR : T.l0.all zqf = true /\ T.l1.all zqf = true := ⟨hall 0 (by omega), hall 1 (by omega)⟩
      have hTX := HT.out.below hX.1
      have hv := HVF.out
      obtain ⟨b1, hb1⟩ : ∃ b, b = zqc T.dg 10 10 := ⟨_, rfl⟩
      obtain ⟨b2, hb2⟩ : ∃ b, b = zqc T.cp 1 4 := ⟨_, rfl⟩
      obtain ⟨b3, hb3⟩ : ∃ b, b = zqc T.nm 1 4 := ⟨_, rfl⟩
      obtain ⟨b4, hb4⟩ : ∃ b, b = zqc T.en 1 4 := ⟨_, rfl⟩
      obtain ⟨b5, hb5⟩ : ∃ b, b = zqc T.sw 1 4 := ⟨_, rfl⟩
      have hV2 := HV.out
      rw [hR.1, hR.2, <- hb1, <- hb2, <- hb3, <- hb4, <- hb5, Bool.true_and, Bool.true_and] at hV2
      have HV2 := hidep hV2
      have H1 : Hid (Calls Tryz.prog 69 #[.slice da T.dg.length dc, .int .i64 10, .int .i64 10] wr fun e w' => e = .returned (.bool b1) /\ w' = wr) := hidep (by
        have h := zq63 V.d T.dg 10 10 wr hTX.dg
        rw [<- hb1, hv.1] at h
        exact h)
      have H2 : Hid (Calls Tryz.prog 69 #[.slice ca T.cp.length cc, .int .i64 1, .int .i64 4] wr fun e w' => e = .returned (.bool b2) /\ w' = wr) := hidep (by
        have h := zq63 V.c T.cp 1 4 wr hTX.cp
        rw [<- hb2, hv.2.1] at h
        exact h)
      have H3 : Hid (Calls Tryz.prog 69 #[.slice na T.nm.length nc, .int .i64 1, .int .i64 4] wr fun e w' => e = .returned (.bool b3) /\ w' = wr) := hidep (by
        have h := zq63 V.n T.nm 1 4 wr hTX.nm
        rw [<- hb3, hv.2.2.1] at h
        exact h)
      have H4 : Hid (Calls Tryz.prog 69 #[.slice ea T.en.length ec, .int .i64 1, .int .i64 4] wr fun e w' => e = .returned (.bool b4) /\ w' = wr) := hidep (by
        have h := zq63 V.e T.en 1 4 wr hTX.en
        rw [<- hb4, hv.2.2.2.1] at h
        exact h)
      have H5 : Hid (Calls Tryz.prog 69 #[.slice sa T.sw.length sc, .int .i64 1, .int .i64 4] wr fun e w' => e = .returned (.bool b5) /\ w' = wr) := hidep (by
        have h := zq63 V.s T.sw 1 4 wr hTX.sw
        rw [<- hb5, hv.2.2.2.2] at h
        exact h)
      have cb := hX.2
      rw [hv.1, hv.2.1, hv.2.2.1, hv.2.2.2.1, hv.2.2.2.2] at cb
      have c2 : wr.cell? ⟨Bx, 2, none⟩ = some (.slice da T.dg.length dc) := by simp [World.cell?, cb]
      have c3 : wr.cell? ⟨Bx, 3, none⟩ = some (.slice ca T.cp.length cc) := by simp [World.cell?, cb]
      have c4 : wr.cell? ⟨Bx, 4, none⟩ = some (.slice na T.nm.length nc) := by simp [World.cell?, cb]
      have c5 : wr.cell? ⟨Bx, 5, none⟩ = some (.slice ea T.en.length ec) := by simp [World.cell?, cb]
      have c6 : wr.cell? ⟨Bx, 6, none⟩ = some (.slice sa T.sw.length sc) := by simp [World.cell?, cb]
      generalize T.dg.length = dn at *
      generalize T.cp.length = cn at *
      generalize T.nm.length = nn at *
      generalize T.en.length = en at *
      generalize T.sw.length = sn at *
      have HX := hidep hX
      clear hV2 hb1 hb2 hb3 hb4 hb5 hR hall hTX hv cb hX hk2 hk
      cases b1 with
      | false =>
        have HE := hidep (show zq8 T = 1 from by rw [HV2.out]; rfl)
        go_wp2_with (first
        | (go_at_call 69; first
            | ((with_reducible refine H1.out.mono ?_); rintro e w1 ⟨rfl, rfl⟩)
            | ((with_reducible refine H2.out.mono ?_); rintro e w1 ⟨rfl, rfl⟩)
            | ((with_reducible refine H3.out.mono ?_); rintro e w1 ⟨rfl, rfl⟩)
            | ((with_reducible refine H4.out.mono ?_); rintro e w1 ⟨rfl, rfl⟩)
            | ((with_reducible refine H5.out.mono ?_); rintro e w1 ⟨rfl, rfl⟩))
        | fail)
        go_ret
        exact ⟨by rw [HE.out]; rfl, HX.out.1⟩
      | true =>
      cases b2 with
      | false =>
        have HE := hidep (show zq8 T = 1 from by rw [HV2.out]; rfl)
        go_wp2_with (first
        | (go_at_call 69; first
            | ((with_reducible refine H1.out.mono ?_); rintro e w1 ⟨rfl, rfl⟩)
            | ((with_reducible refine H2.out.mono ?_); rintro e w1 ⟨rfl, rfl⟩)
            | ((with_reducible refine H3.out.mono ?_); rintro e w1 ⟨rfl, rfl⟩)
            | ((with_reducible refine H4.out.mono ?_); rintro e w1 ⟨rfl, rfl⟩)
            | ((with_reducible refine H5.out.mono ?_); rintro e w1 ⟨rfl, rfl⟩))
        | fail)
        go_ret
        exact ⟨by rw [HE.out]; rfl, HX.out.1⟩
      | true =>
      cases b3 with
      | false =>
        have HE := hidep (show zq8 T = 1 from by rw [HV2.out]; rfl)
        go_wp2_with (first
        | (go_at_call 69; first
            | ((with_reducible refine H1.out.mono ?_); rintro e w1 ⟨rfl, rfl⟩)
            | ((with_reducible refine H2.out.mono ?_); rintro e w1 ⟨rfl, rfl⟩)
            | ((with_reducible refine H3.out.mono ?_); rintro e w1 ⟨rfl, rfl⟩)
            | ((with_reducible refine H4.out.mono ?_); rintro e w1 ⟨rfl, rfl⟩)
            | ((with_reducible refine H5.out.mono ?_); rintro e w1 ⟨rfl, rfl⟩))
        | fail)
        go_ret
        exact ⟨by rw [HE.out]; rfl, HX.out.1⟩
      | true =>
      cases b4 with
      | false =>
        have HE := hidep (show zq8 T = 1 from by rw [HV2.out]; rfl)
        go_wp2_with (first
        | (go_at_call 69; first
            | ((with_reducible refine H1.out.mono ?_); rintro e w1 ⟨rfl, rfl⟩)
            | ((with_reducible refine H2.out.mono ?_); rintro e w1 ⟨rfl, rfl⟩)
            | ((with_reducible refine H3.out.mono ?_); rintro e w1 ⟨rfl, rfl⟩)
            | ((with_reducible refine H4.out.mono ?_); rintro e w1 ⟨rfl, rfl⟩)
            | ((with_reducible refine H5.out.mono ?_); rintro e w1 ⟨rfl, rfl⟩))
        | fail)
        go_ret
        exact ⟨by rw [HE.out]; rfl, HX.out.1⟩
      | true =>
      cases b5 with
      | false =>
        have HE := hidep (show zq8 T = 1 from by rw [HV2.out]; rfl)
        go_wp2_with (first
        | (go_at_call 69; first
            | ((with_reducible refine H1.out.mono ?_); rintro e w1 ⟨rfl, rfl⟩)
            | ((with_reducible refine H2.out.mono ?_); rintro e w1 ⟨rfl, rfl⟩)
            | ((with_reducible refine H3.out.mono ?_); rintro e w1 ⟨rfl, rfl⟩)
            | ((with_reducible refine H4.out.mono ?_); rintro e w1 ⟨rfl, rfl⟩)
            | ((with_reducible refine H5.out.mono ?_); rintro e w1 ⟨rfl, rfl⟩))
        | fail)
        go_ret
        exact ⟨by rw [HE.out]; rfl, HX.out.1⟩
      | true =>
      have HV3 := hidep (show zq8 T = if (zq22 T.l0 || zq22 T.l1) = true then 7 else if (zq23.all (ownB T.l0) && zq23.all (ownB T.l1)) = false then 6 else 0 from by rw [HV2.out]; rfl)
      clear HV HV2
      go_upto_region 16 with (first
        | (go_at_call 69; first
            | ((with_reducible refine H1.out.mono ?_); rintro e w1 ⟨rfl, rfl⟩)
            | ((with_reducible refine H2.out.mono ?_); rintro e w1 ⟨rfl, rfl⟩)
            | ((with_reducible refine H3.out.mono ?_); rintro e w1 ⟨rfl, rfl⟩)
            | ((with_reducible refine H4.out.mono ?_); rintro e w1 ⟨rfl, rfl⟩)
            | ((with_reducible refine H5.out.mono ?_); rintro e w1 ⟨rfl, rfl⟩))
        | fail)
      clear H1 H2 H3 H4 H5 c2 c3 c4 c5 c6 hki
      have hX := HX.out
      have HG := hidep (show VL3 T w V Bx (.int .i64 0) _ from ⟨0, by omega, rfl, fun j hj => by omega, hX⟩)
      clear hX HX
      go_upto_region 17 with (fail)
      refine wp_loop (LoopI 136 (fun tm ds wr => (slot tm 1) = .pointer (some ⟨Bx, 0, none⟩) /\ ds = [] /\ VL3 T w V Bx (slot tm 6) wr)) (fun a' wr => 2 - natI (a'.tmps.getD 6 undef)) ?l3Start ?l3Round
      case' l3Start => refine LoopI.mk rfl ?_
      case' l3Round => (rintro ⟨t, ds⟩ wr ⟨hts, hrel⟩; dsimp only at hts hrel; rw [zq59 t ds hts])
      case l3Start => exact ⟨rfl, rfl, HG.out⟩
      clear HG
      obtain ⟨e1, hds, k, hk2, e6, hall, hX⟩ := hrel
      subst hds
      rw [e1, e6]
      clear e1 e6 hts
      by_cases hk : k < 2
      · have hki : (k : Int) < 2 := by omega
        have hk0 : (0 : Int) <= (k : Int) := by omega
        have HALL := hidep hall
        have HKK := hidep hk
        obtain ⟨L, hL⟩ : ∃ L, L = T.at k := ⟨_, rfl⟩
        obtain ⟨ra, rc, hcr, hrl, hrc⟩ := TbX.at2 Bx HT.out hk
        rw [<- hL] at hcr hrl
        have hok2 := HOK.out.at k
        rw [<- hL] at hok2
        have HL := hidep hL
        have HCR := hidep hcr
        have HOK2 := hidep hok2
        have hLn := hok2.2
        have hcell := (hcr wr hX).1
        unfold maxLen at hrc
        obtain ⟨n, hn⟩ : ∃ n, n = L.length := ⟨_, rfl⟩
        rw [<- hn] at hcell hrl hLn HCR
        have HN := hidep hn
        have HG := hidep (And.intro (show VL3i L (.int .i64 0) from ⟨0, Nat.zero_le _, rfl, fun j hj => by omega⟩) hX)
        clear hall hL hcr hok2 hn hX
        go_upto_region 21 with (fail)
        clear hcell
        refine wp_loop (LoopI 136 (fun tm ds wr => (slot tm 1) = .pointer (some ⟨Bx, 0, none⟩) /\ (slot tm 6) = .int .i64 (k : Nat) /\ (slot tm 7) = .slice ra n rc /\ ds = [] /\ VL3i L (slot tm 8) /\ TbX w V Bx wr)) (fun a' wr => n - natI (a'.tmps.getD 8 undef)) ?l3iStart ?l3iRound
        case' l3iStart => refine LoopI.mk rfl ?_
        case' l3iRound => (rintro ⟨t, ds⟩ wr ⟨hts, hrel⟩; dsimp only at hts hrel; rw [zq59 t ds hts])
        case l3iStart => exact ⟨rfl, rfl, rfl, rfl, HG.out⟩
        clear HG
        obtain ⟨e1, e6, e7, hds, ⟨i, hi, e8, hall⟩, hX⟩ := hrel
        subst hds
        rw [e1, e6, e7, e8]
        clear e1 e6 e7 e8 hts
        rw [<- HN.out] at hi
        by_cases hil : i < n
        · have hili : (i : Int) < (n : Int) := by omega
          have hi0 : (0 : Int) <= (i : Int) := by omega
          have HALI := hidep hall
          have HG := hidep (And.intro (show VL3j L i (.int .i64 0) from ⟨0, Nat.zero_le _, rfl, fun j hj => by omega⟩) hX)
          clear hall hX
          go_upto_region 24 with (fail)
          refine wp_loop (LoopI 136 (fun tm ds wr => (slot tm 1) = .pointer (some ⟨Bx, 0, none⟩) /\ (slot tm 6) = .int .i64 (k : Nat) /\ (slot tm 7) = .slice ra n rc /\ (slot tm 8) = .int .i64 (i : Nat) /\ ds = [] /\ VL3j L i (slot tm 9) /\ TbX w V Bx wr)) (fun a' wr => i - natI (a'.tmps.getD 9 undef)) ?l3jStart ?l3jRound
          case' l3jStart => refine LoopI.mk rfl ?_
          case' l3jRound => (rintro ⟨t, ds⟩ wr ⟨hts, hrel⟩; dsimp only at hts hrel; rw [zq59 t ds hts])
          case l3jStart => exact ⟨rfl, rfl, rfl, rfl, rfl, HG.out⟩
          clear HG
          obtain ⟨e1, e6, e7, e8, hds, ⟨j, hj, e9, hall⟩, hX⟩ := hrel
          subst hds
          rw [e1, e6, e7, e8, e9]
          clear e1 e6 e7 e8 e9 hts
          by_cases hji : j < i
          · have hjii : (j : Int) < (i : Int) := by omega
            have hjn : (j : Int) < (n : Int) := by omega
            have hj0 : (0 : Int) <= (j : Int) := by omega
            have hrw := (HCR.out wr hX).2
            rw [HN.out] at hrw
            have hiL : i < L.length := by rw [<- HN.out]; exact hil
            have hjL : j < L.length := by omega
            obtain ⟨b, off, ua, un, uc, hra, hb, hc0, hc1, _, _⟩ := zq4e hrw hiL
            obtain ⟨b', off', ua', un', uc', hra', _, hd0, hd1, _, _⟩ := zq4e hrw hjL
            rw [hra] at hra'
            injection hra' with hra'
            injection hra' with hbb hoo
            subst hbb hoo
            subst hra
            obtain ⟨x, hx⟩ : ∃ x, x = L[i] := ⟨_, rfl⟩
            obtain ⟨y, hy⟩ : ∃ y, y = L[j] := ⟨_, rfl⟩
            rw [<- hx] at hc0 hc1
            rw [<- hy] at hd0 hd1
            have hgx : L.getD i rule0 = x := by rw [List.getD_eq_getElem?_getD, List.getElem?_eq_getElem hiL, hx]; rfl
            have hgy : L.getD j rule0 = y := by rw [List.getD_eq_getElem?_getD, List.getElem?_eq_getElem hjL, hy]; rfl
            have HSM := hidep (show (sameR x y = true -> zq22 L = true) /\ (sameR x y = false -> ∀ j', j' < j + 1 -> sameR (L.getD i rule0) (L.getD j' rule0) = false) from
              ⟨fun h => twice_true hiL hji (by rw [hgx, hgy]; exact h), fun h j' hj' => by
                rcases (by omega : j' < j \/ j' = j) with h2 | rfl
                · exact hall j' h2
                · rw [hgx, hgy]; exact h⟩)
            clear hx hy hgx hgy hrw hall
            obtain ⟨s, wh, cl⟩ := x
            obtain ⟨s2, wh2, cl2⟩ := y
            simp only at hc0 hc1 hd0 hd1
            have HX := hidep hX
            clear hX
            go_upto_region 26 with (fail)
            by_cases hts : s = s2
            · have g1 : (s.toList == s2.toList) = true := by rw [hts]; simp
              by_cases htw : wh = wh2
              · have g2 : (wh == wh2) = true := by simp [htw]
                have HE := hidep (show zq8 T = 7 from by
                  have h2 := HSM.out.1 (by unfold sameR; simp only; rw [decide_eq_true hts, decide_eq_true htw]; rfl)
                  rw [HL.out] at h2
                  rw [HV3.out, if_pos]
                  rcases (by have := HKK.out; omega : k = 0 \/ k = 1) with rfl | rfl
                  · have h2 : zq22 T.l0 = true := h2
                    rw [h2, Bool.true_or]
                  · have h2 : zq22 T.l1 = true := h2
                    rw [h2, Bool.or_true])
                clear hts htw
                go_quiet (fail)
                (try dsimp only [Exit.inBlock, Exit.then])
                try apply_assumption
                go_wp2
                go_ret
                exact ⟨by rw [HE.out]; rfl, (HX.out.below (zq6 (Below.refl _ _) _)).1⟩
              · have g2 : (wh == wh2) = false := by simp [htw]
                have HA := hidep (HSM.out.2 (by unfold sameR; simp only; rw [decide_eq_false htw, Bool.and_false]))
                clear hts htw
                go_quiet (fail)
                (try dsimp only [Exit.inBlock, Exit.then])
                try apply_assumption
                go_wp2
                refine ⟨LoopI.mk rfl ⟨rfl, rfl, rfl, rfl, rfl, ⟨j + 1, by omega, by show Value.int _ _ = _; go_num, HA.out⟩, HX.out.below (zq6 (Below.refl _ _) _)⟩, ?_⟩
                show i - _ < i - _
                simp [natI]; omega
            · have g1 : (s.toList == s2.toList) = false := by simp only [beq_eq_false_iff_ne, ne_eq]; exact fun h => hts (zq71 h)
              have HA := hidep (HSM.out.2 (by unfold sameR; simp only; rw [decide_eq_false hts, Bool.false_and]))
              clear hts
              go_quiet (fail)
              (try dsimp only [Exit.inBlock, Exit.then])
              try apply_assumption
              go_wp2
              refine ⟨LoopI.mk rfl ⟨rfl, rfl, rfl, rfl, rfl, ⟨j + 1, by omega, by show Value.int _ _ = _; go_num, HA.out⟩, HX.out.below (zq6 (Below.refl _ _) _)⟩, ?_⟩
              show i - _ < i - _
              simp [natI]; omega
          · have hjii : ¬ (j : Int) < (i : Int) := by omega
            have HA := hidep (show ∀ i', i' < i + 1 -> NoTw L i' from fun i' hi' => by
              rcases (by omega : i' < i \/ i' = i) with h | rfl
              · exact HALI.out i' h
              · intro j' hj'
                exact hall j' (by omega))
            clear hall
            go_wp2
            refine ⟨LoopI.mk rfl ⟨rfl, rfl, rfl, rfl, ⟨i + 1, by rw [<- HN.out]; omega, by show Value.int _ _ = _; go_num, HA.out⟩, hX⟩, ?_⟩
            show n - _ < n - _
            simp [natI]; omega
        · have hili : ¬ (i : Int) < (n : Int) := by omega
          have HA := hidep (show ∀ j, j < k + 1 -> zq22 (T.at j) = false from fun j hj => by
            rcases (by omega : j < k \/ j = k) with h | rfl
            · exact HALL.out j h
            · rw [<- HL.out]
              exact zq9c (fun i' hi' => hall i' (by rw [<- HN.out] at hi'; omega)))
          clear hall
          go_wp2
          refine ⟨LoopI.mk rfl ⟨rfl, rfl, k + 1, by omega, by show Value.int _ _ = _; go_num, HA.out, hX⟩, ?_⟩
          show 2 - _ < 2 - _
          simp [natI]; omega
      · have hki : ¬ (k : Int) < 2 := by omega
        have hV4 := HV3.out
        have h0 : zq22 T.l0 = false := hall 0 (by omega)
        have h1 : zq22 T.l1 = false := hall 1 (by omega)
        rw [h0, h1, Bool.or_false, if_neg (by decide)] at hV4
        have HV4 := hidep hV4
        have HG := hidep (show VL4 T w V Bx (.int .i64 0) wr from ⟨0, by omega, rfl, fun j hj => by omega, hX⟩)
        clear hV4 h0 h1 hall hX hk hk2
        go_upto_region 29 with (fail)
        clear hki
        refine wp_loop (LoopI 136 (fun tm ds wr => (slot tm 1) = .pointer (some ⟨Bx, 0, none⟩) /\ ds = [] /\ VL4 T w V Bx (slot tm 10) wr)) (fun a' wr => 2 - natI (a'.tmps.getD 10 undef)) ?l4Start ?l4Round
        case' l4Start => refine LoopI.mk rfl ?_
        case' l4Round => (rintro ⟨t, ds⟩ wr ⟨hts, hrel⟩; dsimp only at hts hrel; rw [zq59 t ds hts])
        case l4Start => exact ⟨rfl, rfl, HG.out⟩
        clear HG
        obtain ⟨e1, hds, k, hk2, e10, hall, hX⟩ := hrel
        subst hds
        rw [e1, e10]
        clear e1 e10 hts
        by_cases hk : k < 2
        · have hki : (k : Int) < 2 := by omega
          have hk0 : (0 : Int) <= (k : Int) := by omega
          have HALL := hidep hall
          have HKK := hidep hk
          obtain ⟨L, hL⟩ : ∃ L, L = T.at k := ⟨_, rfl⟩
          obtain ⟨ra, rc, hcr, hrl, hrc⟩ := TbX.at2 Bx HT.out hk
          rw [<- hL] at hcr hrl
          have hok2 := HOK.out.at k
          rw [<- hL] at hok2
          have HL := hidep hL
          have HOK2 := hidep hok2.1
          have hLn := hok2.2
          unfold maxLen at hrc
          have HCR := hidep hcr
          have HG := hidep (And.intro (show VL4c L (.int .i64 97) from ⟨0, by omega, rfl, fun j hj => by omega⟩) hX)
          clear hall hL hcr hok2 hX
          go_upto_region 32 with (fail)
          refine wp_loop (LoopI 136 (fun tm ds wr => (slot tm 1) = .pointer (some ⟨Bx, 0, none⟩) /\ (slot tm 10) = .int .i64 (k : Nat) /\ ds = [] /\ VL4c L (slot tm 11) /\ TbX w V Bx wr)) (fun a' wr => 123 - natI (a'.tmps.getD 11 undef)) ?l4cStart ?l4cRound
          case' l4cStart => refine LoopI.mk rfl ?_
          case' l4cRound => (rintro ⟨t, ds⟩ wr ⟨hts, hrel⟩; dsimp only at hts hrel; rw [zq59 t ds hts])
          case l4cStart => exact ⟨rfl, rfl, rfl, HG.out⟩
          clear HG
          obtain ⟨e1, e10, hds, ⟨m, hm, e11, hall⟩, hX⟩ := hrel
          subst hds
          rw [e1, e10, e11]
          clear e1 e10 e11 hts
          obtain ⟨hcell, hrw⟩ := HCR.out wr hX
          by_cases hm26 : m < 26
          · obtain ⟨c, hc⟩ : ∃ c : Int, c = 97 + (m : Int) := ⟨_, rfl⟩
            have hcb : 97 <= c /\ c <= 122 := by omega
            have hwc : IntKind.u8.wrap c = c := IntWalk.u8_in _ (by omega)
            have HO := hidep (ownR_any _ L c wr hrw HOK2.out)
            have HC := hidep hc
            obtain ⟨ob, hob⟩ : ∃ ob, ob = ownB L c := ⟨_, rfl⟩
            rw [<- hob] at HO
            rw [<- hc]
            obtain ⟨n, hn⟩ : ∃ n, n = L.length := ⟨_, rfl⟩
            rw [<- hn] at hcell HO
            have hcle : c <= 122 := hcb.2
            cases ob with
            | true =>
              have HA := hidep (show ∀ m', m' < m + 1 -> ownB L (97 + (m' : Int)) = true from fun m' hm' => by
                rcases (by omega : m' < m \/ m' = m) with h | rfl
                · exact hall m' h
                · rw [<- HC.out]; exact hob.symm)
              clear hc hob hn hall hrw
              go_wp2_with (go_at_call 70; refine HO.out.mono ?_; rintro e w1 ⟨rfl, hw1⟩; rw [hw1]; clear hw1)
              refine ⟨LoopI.mk rfl ⟨rfl, rfl, rfl, ⟨m + 1, by omega, by show Value.int _ _ = _; rw [HC.out]; go_num, HA.out⟩, hX⟩, ?_⟩
              show 123 - _ < 123 - _
              simp [natI]; omega
            | false =>
              have HE := hidep (show zq8 T = 6 from by
                have hf : zq23.all (ownB L) = false := by
                  rw [List.all_eq_false]
                  exact ⟨c, List.mem_map.2 ⟨m, List.mem_range.2 hm26, by rw [hc]⟩, by rw [<- hob]; decide⟩
                rw [HL.out] at hf
                rw [HV4.out, if_pos]
                rcases (by have := HKK.out; omega : k = 0 \/ k = 1) with rfl | rfl
                · have hf : zq23.all (ownB T.l0) = false := hf
                  rw [hf, Bool.false_and]
                · have hf : zq23.all (ownB T.l1) = false := hf
                  rw [hf, Bool.and_false])
              clear hc hob hn hall hrw
              go_wp2_with (go_at_call 70; refine HO.out.mono ?_; rintro e w1 ⟨rfl, hw1⟩; rw [hw1]; clear hw1)
              go_ret
              exact ⟨by rw [HE.out]; rfl, hX.1⟩
          · have hme : m = 26 := by omega
            subst hme
            have HA := hidep (show ∀ j, j < k + 1 -> zq23.all (ownB (T.at j)) = true from fun j hj => by
              rcases (by omega : j < k \/ j = k) with h | rfl
              · exact HALL.out j h
              · rw [<- HL.out, List.all_eq_true]
                intro x hx
                obtain ⟨m', hm', rfl⟩ := List.mem_map.1 hx
                exact hall m' (List.mem_range.1 hm'))
            clear hall hrw hcell
            go_wp2
            refine ⟨LoopI.mk rfl ⟨rfl, rfl, k + 1, by omega, by show Value.int _ _ = _; go_num, HA.out, hX⟩, ?_⟩
            show 2 - _ < 2 - _
            simp [natI]; omega
        · have hki : ¬ (k : Int) < 2 := by omega
          have HE := hidep (show zq8 T = 0 from by
            have h0 : zq23.all (ownB T.l0) = true := hall 0 (by omega)
            have h1 : zq23.all (ownB T.l1) = true := hall 1 (by omega)
            rw [HV4.out, h0, h1]
            rfl)
          clear hall
          go_wp2
          go_ret
          exact ⟨by rw [HE.out]; rfl, hX.1⟩
end Go.Proofs.YtcfjepcflanjbaaGreat
