/- Tables of rules as plain data, and how their cells read. -/
import Derived.Test.YtcfjepcflanjbaaGreatBr02
import Derived.Shelf.Abstract
namespace Go.Proofs.YtcfjepcflanjbaaGreat
open Go.RowKit Go.Lab
structure RuleZ where
  text : ByteArray
  wh : Int
  cells : List Int
  deriving DecidableEq
structure TabZ where
  l0 : List RuleZ
  l1 : List RuleZ
  dg : List Int
  cp : List Int
  nm : List Int
  en : List Int
  sw : List Int
  deriving DecidableEq
def TabZ.rules (T : TabZ) (lang : Int) : List RuleZ := if lang = 0 then T.l0 else T.l1
def byC (l : List Int) : List Value := l.map (Value.int .u8)
def BysAt (w : World) (v : Value) (l : List Int) : Prop := Rd w (fun _ => True) 1 v l.length (byC l) /\ ∀ x ∈ l, 0 <= x /\ x < 256
theorem BysAt.below {w w' : World} {v : Value} {l : List Int} (h : BysAt w v l) (hb : Below w.heap.size w w') : BysAt w' v l := ⟨h.1.below hb, h.2⟩
theorem BysAt.nil (w : World) : BysAt w (.slice none 0 0) [] := ⟨Rd.nil _ _ _, fun x hx => by cases hx⟩
theorem byC_len (l : List Int) : (byC l).length = l.length := by simp [byC]
theorem zq33 (l : List Int) : ∀ u ∈ byC l, u.oneCell' = true := by
  intro u hu
  simp only [byC, List.mem_map] at hu
  obtain ⟨_, _, rfl⟩ := hu
  rfl
theorem zq60 (a b : List Int) : byC (a ++ b) = byC a ++ byC b := by simp [byC]
theorem byC_get (l : List Int) (k : Nat) (h : k < l.length) : (byC l)[k]? = some (.int .u8 l[k]) := by simp [byC, h]
theorem byC_drop (l : List Int) (k : Nat) : (byC l).drop k = byC (l.drop k) := by simp [byC]
theorem zqcc (l : List Int) (k : Nat) : (byC l).take k = byC (l.take k) := by simp [byC]
theorem BysAt.at {w : World} {a : Option Addr} {c : Nat} {l : List Int} (h : BysAt w (.slice a l.length c) l) {k : Nat} (hk : k < l.length) :
    ∃ b off, a = some ⟨b, off, none⟩ /\ b < w.heap.size /\ w.cell? ⟨b, off + k, none⟩ = some (.int .u8 l[k]) /\ 0 <= l[k] /\ l[k] < 256 := by
  obtain ⟨b, off, e, hb, hc⟩ := Rd.at h.1 (by omega)
  exact ⟨b, off, e, hb, hc k _ (byC_get l k hk), h.2 _ (List.getElem_mem hk)⟩
def ruleC (r : RuleZ) (u : Value) : List Value := [.string r.text, .int .i64 r.wh, u]
def zq10 : List RuleZ -> List Value -> List Value
  | r :: l, u :: us => ruleC r u ++ zq10 l us
  | _, _ => []
theorem zq89 : ∀ (l : List RuleZ) (us : List Value), us.length = l.length -> (zq10 l us).length = l.length * 3
  | [], [], _ => rfl
  | [], _ :: _, h => by simp at h
  | _ :: _, [], h => by simp at h
  | a :: l, b :: us, h => by
    rw [zq10, List.length_append, zq89 l us (by simpa using h)]
    simp [ruleC]; omega
theorem rulesC_snoc : ∀ (l : List RuleZ) (us : List Value) (r : RuleZ) (u : Value), us.length = l.length -> zq10 (l ++ [r]) (us ++ [u]) = zq10 l us ++ ruleC r u
  | [], [], r, u, _ => by simp [zq10]
  | [], _ :: _, _, _, h => by simp at h
  | _ :: _, [], _, _, h => by simp at h
  | a :: l, b :: us, r, u, h => by
    have := rulesC_snoc l us r u (by simpa using h)
    simp [zq10, this]
theorem zq5f : ∀ (l : List RuleZ) (us : List Value) (i j : Nat) (h : i < l.length) (h' : i < us.length), j < 3 -> (zq10 l us)[i * 3 + j]? = (ruleC l[i] us[i])[j]?
  | [], _, _, _, h, _, _ => by simp at h
  | _ :: _, [], _, _, _, h, _ => by simp at h
  | a :: l, b :: us, 0, j, _, _, hj => by
    rw [zq10, Nat.zero_mul, Nat.zero_add, List.getElem?_append_left (by simp [ruleC]; omega)]
    rfl
  | a :: l, b :: us, i + 1, j, h, h', hj => by
    have := zq5f l us i j (by simpa using h) (by simpa using h') hj
    rw [zq10, List.getElem?_append_right (by simp [ruleC]; omega)]
    simp only [ruleC, List.length_cons, List.length_nil, List.getElem_cons_succ]
    rw [show (i + 1) * 3 + j - (0 + 1 + 1 + 1) = i * 3 + j from by omega]
    exact this
def RulesAt (w : World) (v : Value) (l : List RuleZ) : Prop :=
  ∃ us : List Value, us.length = l.length /\ Rd w (fun _ => True) 3 v l.length (zq10 l us) /\ ∀ i (h : i < l.length) (h' : i < us.length), BysAt w us[i] l[i].cells
theorem RulesAt.below {w w' : World} {v : Value} {l : List RuleZ} (h : RulesAt w v l) (hb : Below w.heap.size w w') : RulesAt w' v l := by
  obtain ⟨us, hl, hr, hs⟩ := h
  exact ⟨us, hl, hr.below hb, fun i a b => (hs i a b).below hb⟩
theorem RulesAt.form {w : World} {v : Value} {l : List RuleZ} (h : RulesAt w v l) : ∃ a cap, v = .slice a l.length cap /\ l.length <= cap /\ cap <= maxLen := by
  obtain ⟨us, _, hr, _⟩ := h
  exact hr.form
theorem RulesAt.nil (w : World) : RulesAt w (.slice none 0 0) [] := ⟨[], rfl, Rd.nil _ _ _, fun i h => by simp at h⟩
theorem RulesAt.at {w : World} {a : Option Addr} {c : Nat} {l : List RuleZ} (h : RulesAt w (.slice a l.length c) l) {k : Nat} (hk : k < l.length) :
    ∃ b off u, a = some ⟨b, off, none⟩ /\ b < w.heap.size /\ w.rangeAt b (off + k * 3) (ruleC l[k] u) /\ BysAt w u l[k].cells := by
  obtain ⟨us, hl, hr, hs⟩ := h
  obtain ⟨b, off, e, hb, hc⟩ := Rd.at hr (by omega)
  have hk' : k < us.length := by omega
  refine ⟨b, off, us[k], e, hb, fun j x hx => ?_, hs k hk hk'⟩
  have hj : j < 3 := by
    have := (List.getElem?_eq_some_iff.1 hx).1
    simpa [ruleC] using this
  rw [Nat.add_assoc]
  apply hc
  rw [zq5f l us k j hk hk' hj]
  exact hx
structure TabV where
  a : Value
  b : Value
  d : Value
  c : Value
  n : Value
  e : Value
  s : Value
def TabV.v (V : TabV) : Value := .agg #[V.a, V.b, V.d, V.c, V.n, V.e, V.s]
structure TabIn (w : World) (V : TabV) (T : TabZ) : Prop where
  r0 : RulesAt w V.a T.l0
  r1 : RulesAt w V.b T.l1
  dg : BysAt w V.d T.dg
  cp : BysAt w V.c T.cp
  nm : BysAt w V.n T.nm
  en : BysAt w V.e T.en
  sw : BysAt w V.s T.sw
theorem TabIn.below {w w' : World} {V : TabV} {T : TabZ} (h : TabIn w V T) (hb : Below w.heap.size w w') : TabIn w' V T :=
  ⟨h.r0.below hb, h.r1.below hb, h.dg.below hb, h.cp.below hb, h.nm.below hb, h.en.below hb, h.sw.below hb⟩
/-! ### plain: what tables have to be -/
def cellB (c : Int) : Bool := decide (1 <= c) && decide (c <= 63)
def zqc (l : List Int) (lo hi : Nat) : Bool := l.all cellB && (decide (lo <= l.length) && decide (l.length <= hi))
def lowB (c : Int) : Bool := decide (97 <= c) && decide (c <= 122)
def capB (c : Int) : Bool := decide (65 <= c) && decide (c <= 90)
def digB (c : Int) : Bool := decide (48 <= c) && decide (c <= 57)
def charB (c : Int) : Bool := decide (32 <= c) && decide (c <= 126)
def byts (s : ByteArray) : List Int := s.data.toList.map fun b => (b.toNat : Int)
def lowsB (s : ByteArray) : Bool := (byts s).all lowB
def headC (s : ByteArray) : Int := (byts s).headD 0
def markB (r : RuleZ) : Bool := decide (r.text.size = 1) && (charB (headC r.text) && (!lowB (headC r.text) && (!capB (headC r.text) && (!digB (headC r.text) && decide (r.wh = 0)))))
def zqf (r : RuleZ) : Bool := decide (1 <= r.text.size) && (decide (r.text.size <= 8) && (decide (0 <= r.wh) && (decide (r.wh <= 3) && (zqc r.cells 1 4 && (lowsB r.text || markB r)))))
def sameR (a b : RuleZ) : Bool := decide (a.text = b.text) && decide (a.wh = b.wh)
def rule0 : RuleZ := ⟨ByteArray.empty, 0, []⟩
def zq22 (L : List RuleZ) : Bool := (List.range L.length).any fun i => (L.take i).any (sameR (L.getD i rule0))
def ownB (l : List RuleZ) (c : Int) : Bool := l.any fun r => decide (r.wh = 0) && decide (byts r.text = [c])
def zq23 : List Int := (List.range 26).map fun k : Nat => 97 + (k : Int)
def zq8 (T : TabZ) : Int :=
  if 96 < T.l0.length \/ 96 < T.l1.length then 4
  else if (T.l0.all zqf && (T.l1.all zqf && (zqc T.dg 10 10 && (zqc T.cp 1 4 && (zqc T.nm 1 4 && (zqc T.en 1 4 && zqc T.sw 1 4)))))) = false then 1
  else if (zq22 T.l0 || zq22 T.l1) = true then 7
  else if (zq23.all (ownB T.l0) && zq23.all (ownB T.l1)) = false then 6
  else 0
end Go.Proofs.YtcfjepcflanjbaaGreat
/- Contracts: characters and cells (packages table and dactylref06). -/
namespace Go.Proofs.YtcfjepcflanjbaaGreat
open Go.RowKit Go.Lab Go.Shelf
theorem zq1a (s : ByteArray) : (byts s).length = s.size := by unfold byts; rw [List.length_map]; rfl
theorem byts_rng (s : ByteArray) : ∀ x ∈ byts s, 0 <= x /\ x < 256 := by
  intro x hx
  unfold byts at hx
  obtain ⟨b, _, rfl⟩ := List.mem_map.1 hx
  have := b.toNat_lt
  omega
theorem zq40 (s : ByteArray) (j : Nat) (h : j < s.size) (h2 : j < (byts s).length) : ((s[j]'h).toNat : Int) = (byts s)[j] := by
  simp only [byts, List.getElem_map]
  rfl
def lowZ (c : Int) : Int := if capB c = true then c + 32 else c
def letB (c : Int) : Bool := lowB c || capB c
set_option maxHeartbeats 400000 in
theorem digit_any (c : Int) (w : World) : Calls Tryz.prog 89 #[.int .u8 c] w fun e w' => e = .returned (.bool (digB c)) /\ w' = w := by
  go_enter Tryz.func89, Tryz.ntmps89
  go_wp2
  all_goals (go_ret; exact ⟨zqb (by simp [digB, *]; try omega), rfl⟩)
set_option maxHeartbeats 400000 in
theorem digitR_any (c : Int) (w : World) : Calls Tryz.prog 57 #[.int .u8 c] w fun e w' => e = .returned (.bool (digB c)) /\ w' = w := by
  go_enter Tryz.func57, Tryz.ntmps57
  go_wp2
  all_goals (go_ret; exact ⟨zqb (by simp [digB, *]; try omega), rfl⟩)
set_option maxHeartbeats 400000 in
theorem charT_any (c : Int) (w : World) : Calls Tryz.prog 102 #[.int .u8 c] w fun e w' => e = .returned (.bool (charB c)) /\ w' = w := by
  go_enter Tryz.func102, Tryz.ntmps102
  go_wp2
  all_goals (go_ret; exact ⟨zqb (by simp [charB, *]; try omega), rfl⟩)
set_option maxHeartbeats 800000 in
theorem zq9d (c : Int) (w : World) (hc : 0 <= c /\ c < 256) : Calls Tryz.prog 90 #[.int .u8 c] w fun e w' => e = .returned (.tuple #[.int .u8 (lowZ c), .bool (letB c), .bool (capB c)]) /\ w' = w := by
  by_cases h1 : 97 <= c /\ c <= 122
  · have hL : lowZ c = c /\ letB c = true /\ capB c = false := by
      simp [lowZ, letB, lowB, capB]; omega
    have HL := hidep hL
    obtain ⟨h2, h3⟩ := h1
    clear hL
    go_enter Tryz.func90, Tryz.ntmps90
    go_wp2
    go_ret3
    exact ⟨by rw [HL.out.1, HL.out.2.1, HL.out.2.2]; rfl, rfl⟩
  · by_cases h2 : 65 <= c /\ c <= 90
    · have hL : lowZ c = c + 32 /\ letB c = true /\ capB c = true := by
        simp [lowZ, letB, lowB, capB]; omega
      have HL := hidep hL
      obtain ⟨h3, h4⟩ := h2
      have h5 : ¬ 97 <= c := by omega
      have hw1 : IntKind.u8.wrap (c - 65) = c - 65 := IntWalk.u8_in _ (by omega)
      have hw2 : IntKind.u8.wrap (c - 65 + 97) = c + 32 := by rw [show c - 65 + 97 = c + 32 from by omega]; exact IntWalk.u8_in _ (by omega)
      clear hL h1
      go_enter Tryz.func90, Tryz.ntmps90
      go_wp2
      go_ret3
      exact ⟨by rw [HL.out.1, HL.out.2.1, HL.out.2.2]; rfl, rfl⟩
    · have hL : lowZ c = c /\ letB c = false /\ capB c = false := by
        simp [lowZ, letB, lowB, capB]; omega
      have HL := hidep hL
      clear hL
      go_enter Tryz.func90, Tryz.ntmps90
      go_wp2
      all_goals first
        | (exfalso; omega)
        | (go_ret3; exact ⟨by rw [HL.out.1, HL.out.2.1, HL.out.2.2]; rfl, rfl⟩)
set_option maxHeartbeats 800000 in
theorem zq9b (c : Int) (w : World) (hc : 0 <= c /\ c < 256) : Calls Tryz.prog 58 #[.int .u8 c] w fun e w' => e = .returned (.tuple #[.int .u8 (lowZ c), .bool (letB c), .bool (capB c)]) /\ w' = w := by
  by_cases h1 : 97 <= c /\ c <= 122
  · have hL : lowZ c = c /\ letB c = true /\ capB c = false := by
      simp [lowZ, letB, lowB, capB]; omega
    have HL := hidep hL
    obtain ⟨h2, h3⟩ := h1
    clear hL
    go_enter Tryz.func58, Tryz.ntmps58
    go_wp2
    go_ret3
    exact ⟨by rw [HL.out.1, HL.out.2.1, HL.out.2.2]; rfl, rfl⟩
  · by_cases h2 : 65 <= c /\ c <= 90
    · have hL : lowZ c = c + 32 /\ letB c = true /\ capB c = true := by
        simp [lowZ, letB, lowB, capB]; omega
      have HL := hidep hL
      obtain ⟨h3, h4⟩ := h2
      have h5 : ¬ 97 <= c := by omega
      have hw2 : IntKind.u8.wrap (c + 32) = c + 32 := IntWalk.u8_in _ (by omega)
      clear hL h1
      go_enter Tryz.func58, Tryz.ntmps58
      go_wp2
      go_ret3
      exact ⟨by rw [HL.out.1, HL.out.2.1, HL.out.2.2]; rfl, rfl⟩
    · have hL : lowZ c = c /\ letB c = false /\ capB c = false := by
        simp [lowZ, letB, lowB, capB]; omega
      have HL := hidep hL
      clear hL
      go_enter Tryz.func58, Tryz.ntmps58
      go_wp2
      all_goals first
        | (exfalso; omega)
        | (go_ret3; exact ⟨by rw [HL.out.1, HL.out.2.1, HL.out.2.2]; rfl, rfl⟩)
theorem isLetter_any (c : Int) (w : World) (hc : 0 <= c /\ c < 256) : Calls Tryz.prog 103 #[.int .u8 c] w fun e w' => e = .returned (.bool (letB c)) /\ w' = w := by
  have H := hidep (fun W => zq9d c W hc)
  go_enter Tryz.func103, Tryz.ntmps103
  go_wp2_with (go_at_call 90; refine (H.out _).mono ?_; rintro e w1 ⟨rfl, rfl⟩)
  go_ret
  exact ⟨rfl, rfl⟩
theorem zqdf (c : Int) (w : World) (hc : 0 <= c /\ c < 256) : Calls Tryz.prog 111 #[.int .u8 c] w fun e w' => e = .returned (.bool (letB c)) /\ w' = w := by
  have H := hidep (fun W => zq9b c W hc)
  go_enter Tryz.func111, Tryz.ntmps111
  go_wp2_with (go_at_call 58; refine (H.out _).mono ?_; rintro e w1 ⟨rfl, rfl⟩)
  go_ret
  exact ⟨rfl, rfl⟩
set_option maxHeartbeats 400000 in
theorem cells1_any (c : Int) (w : World) : Calls Tryz.prog 99 #[.int .u8 c] w fun e w' => e = .returned (.bool (!cellB c)) /\ w' = w := by
  go_enter Tryz.func99, Tryz.ntmps99
  go_wp2
  all_goals
    go_ret
    refine ⟨zqb (congrArg Value.bool ?_), rfl⟩
    rw [Bool.eq_iff_iff]
    simp [cellB]
    try omega
theorem zq75 {α : Type} (p : α -> Bool) (l : List α) (k : Nat) (h : k < l.length) (hg : (l.take k).all p = true) : (l.take (k + 1)).all p = p l[k] := by
  rw [List.take_succ_eq_append_getElem h, List.all_append, hg]
  simp
theorem zq69 {α : Type} (p : α -> Bool) (l : List α) (k : Nat) (h : k < l.length) (hp : p l[k] = false) : l.all p = false := by
  rw [List.all_eq_false]
  exact ⟨l[k], List.getElem_mem h, by simp [hp]⟩
set_option maxHeartbeats 1000000 in
theorem word_any (s : ByteArray) (w : World) (hs : s.size <= 100000) : Calls Tryz.prog 101 #[.string s] w fun e w' => e = .returned (.bool (lowsB s)) /\ w' = w := by
  go_enter Tryz.func101, Tryz.ntmps101
  go_upto_region 2 with (fail)
  go_loopw [6] (fun iv wr => ∃ i : Nat, i <= s.size /\ iv = .int .i64 (i : Nat) /\ Hid (((byts s).take i).all lowB = true) /\ wr = w) (fun iv _ => s.size - (intOf iv).toNat)
  case atStart => exact ⟨0, Nat.zero_le _, rfl, hidep rfl, rfl⟩
  case round =>
    obtain ⟨i, hi, rfl, hg, rfl⟩ := hrel
    by_cases his : i < s.size
    · have hisi : (i : Int) < (s.size : Int) := by omega
      have hpos : (0 : Int) <= (i : Int) := by omega
      have hil : i < (byts s).length := by rw [zq1a]; exact his
      have hat := zq40 s i his hil
      obtain ⟨y, hy⟩ : ∃ y, y = (byts s)[i] := ⟨_, rfl⟩
      have HT := hidep (zq75 lowB (byts s) i hil hg.out)
      have HF := hidep (zq69 lowB (byts s) i hil)
      rw [<- hy] at hat HT HF
      clear hy
      by_cases hl : 97 <= y
      · by_cases hu : y <= 122
        · have hyb : lowB y = true := by simp [lowB, hl, hu]
          have HG := hidep (HT.out.trans hyb)
          clear hyb
          go_wp2
          go_roundw
          case rel => exact ⟨i + 1, by omega, by go_num, HG, trivial⟩
          case measure => simp [intOf]; omega
        · have hyb : lowB y = false := by simp [lowB, hu]
          have HG := hidep (HF.out hyb)
          clear hyb
          go_wp2
          go_ret
          exact ⟨by unfold lowsB; rw [HG.out]; rfl, rfl⟩
      · have hyb : lowB y = false := by simp [lowB, hl]
        have HG := hidep (HF.out hyb)
        clear hyb
        go_wp2
        go_ret
        exact ⟨by unfold lowsB; rw [HG.out]; rfl, rfl⟩
    · have hisi : ¬ (i : Int) < (s.size : Int) := by omega
      have hin : i = s.size := by omega
      have hA := hg.out
      rw [List.take_of_length_le (by rw [zq1a]; omega)] at hA
      have HA := hidep hA
      clear hA
      go_wp2
      go_ret
      exact ⟨by unfold lowsB; rw [HA.out]; rfl, rfl⟩
set_option maxHeartbeats 1000000 in
theorem zqb3 (s : ByteArray) (w : World) (hs : s.size <= 100000) : Calls Tryz.prog 96 #[.string s] w fun e w' => e = .returned (.bool (lowsB s)) /\ w' = w := by
  go_enter Tryz.func96, Tryz.ntmps96
  go_upto_region 2 with (fail)
  go_loopw [3] (fun iv wr => ∃ i : Nat, i <= s.size /\ iv = .int .i64 (i : Nat) /\ Hid (((byts s).take i).all lowB = true) /\ wr = w) (fun iv _ => s.size - (intOf iv).toNat)
  case atStart => exact ⟨0, Nat.zero_le _, rfl, hidep rfl, rfl⟩
  case round =>
    obtain ⟨i, hi, rfl, hg, rfl⟩ := hrel
    by_cases his : i < s.size
    · have hisi : (i : Int) < (s.size : Int) := by omega
      have hpos : (0 : Int) <= (i : Int) := by omega
      have hil : i < (byts s).length := by rw [zq1a]; exact his
      have hat := zq40 s i his hil
      obtain ⟨y, hy⟩ : ∃ y, y = (byts s)[i] := ⟨_, rfl⟩
      have HT := hidep (zq75 lowB (byts s) i hil hg.out)
      have HF := hidep (zq69 lowB (byts s) i hil)
      rw [<- hy] at hat HT HF
      clear hy
      by_cases hl : 97 <= y
      · by_cases hu : y <= 122
        · have hyb : lowB y = true := by simp [lowB, hl, hu]
          have HG := hidep (HT.out.trans hyb)
          clear hyb
          go_wp2
          go_roundw
          case rel => exact ⟨i + 1, by omega, by go_num, HG, trivial⟩
          case measure => simp [intOf]; omega
        · have hyb : lowB y = false := by simp [lowB, hu]
          have HG := hidep (HF.out hyb)
          clear hyb
          go_wp2
          go_ret
          exact ⟨by unfold lowsB; rw [HG.out]; rfl, rfl⟩
      · have hyb : lowB y = false := by simp [lowB, hl]
        have HG := hidep (HF.out hyb)
        clear hyb
        go_wp2
        go_ret
        exact ⟨by unfold lowsB; rw [HG.out]; rfl, rfl⟩
    · have hisi : ¬ (i : Int) < (s.size : Int) := by omega
      have hin : i = s.size := by omega
      have hA := hg.out
      rw [List.take_of_length_le (by rw [zq1a]; omega)] at hA
      have HA := hidep hA
      clear hA
      go_wp2
      go_ret
      exact ⟨by unfold lowsB; rw [HA.out]; rfl, rfl⟩
set_option maxHeartbeats 1000000 in
theorem indexFuncB_any (f : FuncId) (p : Int -> Bool) (ef : ∀ args w, (callFunc f args).run Tryz.prog w = .ok (.enter f args) w) (hf : ∀ x W, 0 <= x -> x < 256 -> Calls Tryz.prog f #[.int .u8 x] W fun e w' => e = .returned (.bool (!p x)) /\ w' = W)
    (v : Value) (l : List Int) (w : World) (h : BysAt w v l) :
    Calls Tryz.prog 126 #[v, .func (.func f) #[] #[]] w fun e w' => (∃ k : Int, e = .returned (.int .i64 k) /\ Hid (decide (0 <= k) = !l.all p)) /\ w' = w := by
  obtain ⟨a, cap, rfl, h2, h3⟩ := h.1.form
  unfold maxLen at h3
  go_enter Tryz.func126, Tryz.ntmps126
  go_wp2
  go_loopw [8] (fun i wr => ∃ k : Nat, k <= l.length /\ i = .int .i64 k /\ Hid ((l.take k).all p = true) /\ wr = w) (fun i _ => l.length - (intOf i).toNat)
  case atStart => exact ⟨0, Nat.zero_le _, rfl, hidep rfl, rfl⟩
  case round =>
    obtain ⟨k, hk, rfl, hg, rfl⟩ := hrel
    by_cases hlt : k < l.length
    · obtain ⟨b, off, rfl, hb, hc, hx1, hx2⟩ := h.at hlt
      have HT := hidep (zq75 p l k hlt hg.out)
      have HF := hidep (zq69 p l k hlt)
      obtain ⟨y, hy⟩ : ∃ y, y = l[k] := ⟨_, rfl⟩
      rw [<- hy] at hc hx1 hx2 HT HF
      have HC := hidep (fun W => hf y W hx1 hx2)
      clear hy h
      cases hp : p y with
      | true =>
        rw [hp] at HC HT
        clear hp
        go_wp2_with (go_at_fn f; refine (HC.out _).mono ?_; rintro e w1 ⟨rfl, rfl⟩)
        go_roundw
        case rel => exact ⟨k + 1, by omega, by go_num, HT, trivial⟩
        case measure => simp [intOf]; omega
      | false =>
        rw [hp] at HC
        have HF := hidep (HF.out hp)
        clear hp
        go_wp2_with (go_at_fn f; refine (HC.out _).mono ?_; rintro e w1 ⟨rfl, rfl⟩)
        go_ret
        exact ⟨⟨_, rfl, hidep (by rw [HF.out]; simp)⟩, rfl⟩
    · go_wp2
      go_ret
      have hkl : k = l.length := by omega
      subst hkl
      have := hg.out
      rw [List.take_length] at this
      exact ⟨⟨_, rfl, hidep (by rw [this]; rfl)⟩, rfl⟩
end Go.Proofs.YtcfjepcflanjbaaGreat
/- Contracts of the small helpers of the reference packages: numbers out of lists, valid characters, equal texts. -/
namespace Go.Proofs.YtcfjepcflanjbaaGreat
open Go.RowKit Go.Lab
def zqd (n most : Int) : Int := if most < 1 then 0 else (if n < 0 then -(n + 1) else n) % most
theorem zqe (n most : Int) (h : 1 <= most) : 0 <= zqd n most /\ zqd n most < most := by
  unfold zqd
  rw [if_neg (by omega)]
  exact ⟨Int.emod_nonneg _ (by omega), Int.emod_lt_of_pos _ (by omega)⟩
theorem aroundZ_low {n most : Int} (h : most < 1) : (0 : Int) = zqd n most := (if_pos h).symm
theorem aroundZ_neg {n most : Int} (h : 1 <= most) (hn : n < 0) : -((n + 1).tmod most) = zqd n most := by
  unfold zqd
  rw [if_neg (by omega), if_pos hn, <- Int.neg_tmod, Int.tmod_eq_emod_of_nonneg (by omega)]
theorem aroundZ_pos {n most : Int} (h : 1 <= most) (hn : 0 <= n) : n % most = zqd n most := by
  unfold zqd
  rw [if_neg (by omega), if_neg (by omega)]
set_option maxHeartbeats 400000 in
theorem zq14 (n most : Int) (w : World) (h1 : -9223372036854775808 <= n) (h2 : n <= 9223372036854775807) :
    Calls Tryz.prog 9 #[.int .i64 n, .int .i64 most] w fun e w' => e = .returned (.int .i64 (zqd n most)) /\ w = w' := by
  go_enter Tryz.func9, Tryz.ntmps9
  go_wp2
  all_goals go_ret
  · exact ⟨zqb (congrArg _ (aroundZ_low ‹_›)), rfl⟩
  · exact ⟨zqb (congrArg _ (aroundZ_neg ‹_› ‹_›)), rfl⟩
  · exact ⟨zqb (congrArg _ (aroundZ_low ‹_›)), rfl⟩
  · exact ⟨zqb (congrArg _ (aroundZ_pos ‹_› ‹_›)), rfl⟩
def atZ (l : List Int) (i most : Int) : Int := if i < 0 \/ (l.length : Int) <= i then 0 else zqd (l.getD i.toNat 0) most
theorem atZ_in {l : List Int} {k : Nat} {most : Int} (h : k < l.length) : zqd l[k] most = atZ l (k : Int) most := by
  unfold atZ
  rw [if_neg (by omega)]
  simp [h]
theorem atZ_out {l : List Int} {i most : Int} (h : i < 0 \/ (l.length : Int) <= i) : (0 : Int) = atZ l i most := (if_pos h).symm
theorem atZ_rng (l : List Int) (i most : Int) (h : 1 <= most) : 0 <= atZ l i most /\ atZ l i most < most := by
  unfold atZ
  split
  · omega
  · exact zqe _ _ h
set_option maxHeartbeats 400000 in
theorem at_any (v : Value) (l : List Int) (i most : Int) (w : World) (h : IntsAt w v l) :
    Calls Tryz.prog 27 #[v, .int .i64 i, .int .i64 most] w fun e w' => e = .returned (.int .i64 (atZ l i most)) /\ w = w' := by
  obtain ⟨a, cap, rfl, hc, hm⟩ := h.1.form
  by_cases hin : 0 <= i /\ i < (l.length : Int)
  · obtain ⟨k, rfl⟩ : ∃ k : Nat, i = (k : Int) := ⟨i.toNat, by omega⟩
    have hk : k < l.length := by omega
    obtain ⟨b, off, rfl, hb, hcell⟩ := h.1.at (by omega)
    have hx := hcell k _ (intsC_get l k hk)
    have hr := h.2 l[k] (List.getElem_mem hk)
    obtain ⟨hr1, hr2⟩ := hr
    have HK : Hid (∀ most, zqd l[k] most = atZ l (k : Int) most) := hidep (fun _ => atZ_in hk)
    clear hin hcell h
    generalize l[k] = x at *
    go_enter Tryz.func27, Tryz.ntmps27
    go_wp2_with (go_at_call 9; refine (zq14 _ _ _ (by omega) (by omega)).mono ?_; rintro e w' ⟨rfl, rfl⟩)
    go_ret
    exact ⟨zqb (congrArg _ (HK.out _)), rfl⟩
  · have hz := atZ_out (l := l) (i := i) (most := most) (by omega)
    have HZ := hidep hz
    clear hz h
    have h1 : i < 0 \/ (0 <= i /\ (l.length : Int) <= i) := by omega
    rcases h1 with h1 | ⟨h0, h1⟩
    all_goals
      go_enter Tryz.func27, Tryz.ntmps27
      go_wp2
      go_ret
      exact ⟨zqb (congrArg _ HZ.out), rfl⟩
def zq76 (c : Int) : Bool := decide (32 <= c) && decide (c <= 126)
set_option maxHeartbeats 400000 in
theorem written_any (c : Int) (w : World) :
    Calls Tryz.prog 94 #[.int .u8 c] w fun e w' => e = .returned (.bool (zq76 c)) /\ w = w' := by
  go_enter Tryz.func94, Tryz.ntmps94
  go_wp2
  · rename_i h; go_ret; exact ⟨zqb (by simp [zq76, h]), rfl⟩
  · rename_i h; go_ret; exact ⟨zqb (by simp [zq76]; omega), rfl⟩
def goodB (s : Sym) : Bool := decide (0 <= s.lang) && decide (s.lang <= 1) && zq76 s.c
theorem all_take_succ {α : Type} (p : α -> Bool) (l : List α) (k : Nat) (h : k < l.length) : (l.take (k + 1)).all p = ((l.take k).all p && p l[k]) := by
  rw [List.take_succ_eq_append_getElem h, List.all_append]; simp only [List.all_cons, List.all_nil, Bool.and_true]
theorem all_false_at {α : Type} (p : α -> Bool) (l : List α) (k : Nat) (h : k < l.length) (hp : p l[k] = false) : l.all p = false := by
  rw [List.all_eq_false]
  exact ⟨l[k], List.getElem_mem h, by simp [hp]⟩
end Go.Proofs.YtcfjepcflanjbaaGreat
