/- Contracts: valid characters by ContainsFunc, slices.Equal, Grow and Concat over bytes, begins. -/
import Derived.Test.YtcfjepcflanjbaaGreatBr10
import Derived.Test.YtcfjepcflanjbaaGreatBr07
import Derived.Test.YtcfjepcflanjbaaGreatBr12
import Derived.Shelf.Abstract
namespace Go.Proofs.YtcfjepcflanjbaaGreat
open Go.RowKit Go.Lab Go.Shelf
set_option maxHeartbeats 400000 in
theorem is1_any (lang c : Int) (w : World) :
    Calls Tryz.prog 50 #[.agg #[.int .i64 lang, .int .u8 c]] w fun e w' => e = .returned (.bool (!goodB ⟨lang, c⟩)) /\ Below w.heap.size w w' := by
  go_enter Tryz.func50, Tryz.ntmps50
  go_wp2
  all_goals
    go_ret
    refine ⟨zqb (congrArg Value.bool ?_), (Below.refl _ _).alloc (Nat.le_refl _) _⟩
    rw [Bool.eq_iff_iff]
    simp [goodB, zq76]
    try omega
set_option maxHeartbeats 400000 in
theorem symT_any (lang c : Int) (w : World) :
    Calls Tryz.prog 87 #[.agg #[.int .i64 lang, .int .u8 c]] w fun e w' => e = .returned (.bool (goodB ⟨lang, c⟩)) /\ Below w.heap.size w w' := by
  go_enter Tryz.func87, Tryz.ntmps87
  go_wp2
  all_goals
    go_ret
    refine ⟨zqb (congrArg Value.bool ?_), (Below.refl _ _).alloc (Nat.le_refl _) _⟩
    rw [Bool.eq_iff_iff]
    simp [goodB, zq76]
    try omega
set_option maxHeartbeats 400000 in
theorem steps1_any (lang c : Int) (w : World) :
    Calls Tryz.prog 86 #[.agg #[.int .i64 lang, .int .u8 c]] w fun e w' => e = .returned (.bool (!goodB ⟨lang, c⟩)) /\ Below w.heap.size w w' := by
  go_enter Tryz.func86, Tryz.ntmps86
  go_wp2_with (go_at_call 87; refine (symT_any _ _ _).mono ?_; rintro e w1 ⟨rfl, hb1⟩)
  go_ret
  exact ⟨rfl, ((Below.refl _ _).alloc (Nat.le_refl _) _).trans (hb1.mono (by simp))⟩
set_option maxHeartbeats 400000 in
theorem indexFunc_bad (f : FuncId) (ef : ∀ args w, (callFunc f args).run Tryz.prog w = .ok (.enter f args) w) (hf : ∀ lang c w, Calls Tryz.prog f #[.agg #[.int .i64 lang, .int .u8 c]] w fun e w' => e = .returned (.bool (!goodB ⟨lang, c⟩)) /\ Below w.heap.size w w')
    (v : Value) (l : List Sym) (w : World) (h : SymsAt w v l) :
    Calls Tryz.prog 85 #[v, .func (.func f) #[] #[]] w fun e w' => (∃ k : Int, e = .returned (.int .i64 k) /\ Hid (decide (0 <= k) = !l.all goodB)) /\ Below w.heap.size w w' := by
  obtain ⟨a, cap, rfl, h2, h3⟩ := h.form
  unfold maxLen at h3
  go_enter Tryz.func85, Tryz.ntmps85
  go_wp2
  go_loopw [8] (fun i wr => ∃ k : Nat, k <= l.length /\ i = .int .i64 k /\ Hid ((l.take k).all goodB = true) /\ Below w.heap.size w wr) (fun i _ => l.length - (intOf i).toNat)
  case atStart => exact ⟨0, Nat.zero_le _, rfl, hidep rfl, Below.refl _ _⟩
  case round =>
    obtain ⟨k, hk, rfl, hg, hbw⟩ := hrel
    by_cases hlt : k < l.length
    · obtain ⟨b, off, rfl, hb, hc1, hc2⟩ := (h.below hbw).at hlt
      have HB : Hid (∀ x, l[k] = x -> (l.take (k + 1)).all goodB = goodB x /\ (goodB x = false -> l.all goodB = false)) := by
        rintro x rfl
        refine ⟨by rw [all_take_succ _ _ _ hlt, hg.out]; simp, all_false_at _ _ _ hlt⟩
      have HB := hidep (HB.out _ rfl)
      clear h
      generalize l[k] = x at *
      obtain ⟨lang, c⟩ := x
      simp only at hc1 hc2
      go_wp2_with (go_at_fn f; refine (hf _ _ _).mono ?_; rintro e w1 ⟨rfl, hb1⟩)
      · have hf : goodB ⟨lang, c⟩ = false := by
          have hw : (!goodB ⟨lang, c⟩) = true := by assumption
          simpa using hw
        go_ret
        exact ⟨⟨_, rfl, hidep (by rw [HB.out.2 hf]; simp; try omega)⟩, hbw.trans (hb1.mono hbw.size)⟩
      · have ht : goodB ⟨lang, c⟩ = true := by
          have hw : (!goodB ⟨lang, c⟩) = false := by assumption
          simpa using hw
        go_roundw
        case rel => exact ⟨k + 1, by omega, by go_num, hidep (by rw [HB.out.1, ht]), hbw.trans (hb1.mono hbw.size)⟩
        case measure => simp [intOf]; omega
    · go_wp2
      go_ret
      have hkl : k = l.length := by omega
      subst hkl
      have := hg.out
      rw [List.take_length] at this
      exact ⟨⟨_, rfl, hidep (by rw [this]; rfl)⟩, hbw⟩
set_option maxHeartbeats 400000 in
theorem containsFunc_bad (f : FuncId) (ef : ∀ args w, (callFunc f args).run Tryz.prog w = .ok (.enter f args) w) (hf : ∀ lang c w, Calls Tryz.prog f #[.agg #[.int .i64 lang, .int .u8 c]] w fun e w' => e = .returned (.bool (!goodB ⟨lang, c⟩)) /\ Below w.heap.size w w')
    (v : Value) (l : List Sym) (w : World) (h : SymsAt w v l) :
    Calls Tryz.prog 49 #[v, .func (.func f) #[] #[]] w fun e w' => e = .returned (.bool (!l.all goodB)) /\ Below w.heap.size w w' := by
  have HI := hidep (indexFunc_bad f ef hf v l w h)
  clear h hf
  go_enter Tryz.func49, Tryz.ntmps49
  go_wp2_with fail
  refine HI.out.mono ?_
  rintro e w1 ⟨⟨k, rfl, hk⟩, hb⟩
  go_wp2
  go_ret
  exact ⟨zqb (congrArg Value.bool hk.out), hb⟩
set_option maxRecDepth 100000 in
theorem containsFunc_is1 (v : Value) (l : List Sym) (w : World) (h : SymsAt w v l) :
    Calls Tryz.prog 49 #[v, .func (.func 50) #[] #[]] w fun e w' => e = .returned (.bool (!l.all goodB)) /\ Below w.heap.size w w' :=
  containsFunc_bad _ (fun _ _ => rfl) is1_any v l w h
set_option maxRecDepth 100000 in
theorem containsFunc_steps1 (v : Value) (l : List Sym) (w : World) (h : SymsAt w v l) :
    Calls Tryz.prog 49 #[v, .func (.func 86) #[] #[]] w fun e w' => e = .returned (.bool (!l.all goodB)) /\ Below w.heap.size w w' :=
  containsFunc_bad _ (fun _ _ => rfl) steps1_any v l w h
/-! ### bytes -/
theorem take_succ_eq {a b : List Int} {k : Nat} (h1 : k < a.length) (h2 : k < b.length) (ht : a.take k = b.take k) : (a.take (k + 1) = b.take (k + 1)) ↔ a[k] = b[k] := by
  rw [List.take_succ_eq_append_getElem h1, List.take_succ_eq_append_getElem h2, ht]
  simp only [List.append_cancel_left_eq, List.cons.injEq, and_true]
theorem BysAt.get {w : World} {a : Option Addr} {c : Nat} {l : List Int} (h : BysAt w (.slice a l.length c) l) {k : Nat} (hk : k < l.length) :
    ∃ b off x, l[k] = x /\ a = some ⟨b, off, none⟩ /\ b < w.heap.size /\ w.cell? ⟨b, off + k, none⟩ = some (.int .u8 x) /\ 0 <= x /\ x < 256 := by
  obtain ⟨b, off, h⟩ := h.at hk
  exact ⟨b, off, _, rfl, h⟩
set_option maxHeartbeats 400000 in
theorem equalBy_any (v u : Value) (a b : List Int) (w : World) (hv : BysAt w v a) (hu : BysAt w u b) :
    Calls Tryz.prog 93 #[v, u] w fun e w' => e = .returned (.bool (decide (a = b))) /\ Below w.heap.size w w' := by
  obtain ⟨va, vc, rfl, hvc, hvm⟩ := hv.1.form
  obtain ⟨ua, uc, rfl, huc, hum⟩ := hu.1.form
  unfold maxLen at hvm hum
  by_cases hl : a.length = b.length
  · have HV := hidep (fun W (hW : Below w.heap.size w W) => hv.below hW)
    have HU := hidep (fun W (hW : Below w.heap.size w W) => hu.below hW)
    have HL := hidep hl
    obtain ⟨n, hn⟩ : ∃ n, n = a.length := ⟨_, rfl⟩
    have HN := hidep hn
    have hm : b.length = n := by omega
    rw [hm, <- hn]
    clear hv hu hl
    rw [hm] at huc
    rw [<- hn] at hvc
    clear hn hm
    go_enter Tryz.func93, Tryz.ntmps93
    go_wp2
    go_loopw [13] (fun i wr => ∃ k : Nat, k <= n /\ i = .int .i64 k /\ Hid (a.take k = b.take k) /\ Below w.heap.size w wr) (fun i _ => n - (intOf i).toNat)
    case atStart => exact ⟨0, Nat.zero_le _, rfl, hidep rfl, Below.refl _ _⟩
    case round =>
      obtain ⟨k, hk, rfl, hg, hbw⟩ := hrel
      by_cases hlt : k < n
      · have hka : k < a.length := by rw [<- HN.out]; exact hlt
        have hkb : k < b.length := by rw [<- HL.out]; exact hka
        have h1 := HV.out _ hbw
        have h2 := HU.out _ hbw
        obtain ⟨b1, o1, x, hx, rfl, hb1, hc1, _, _⟩ := h1.get hka
        obtain ⟨b2, o2, y, hy, rfl, hb2, hc2, _, _⟩ := h2.get hkb
        have HT := hidep (take_succ_eq hka hkb hg.out)
        have hk1 : (k : Int) < (n : Int) := by omega
        have hk0 : (0 : Int) <= (k : Int) := by omega
        rw [hx, hy] at HT
        have HXY := hidep (show a = b -> x = y from by intro e; rw [<- hx, <- hy]; simp [e])
        clear hx hy h1 h2 hka hkb
        by_cases hxy : x = y
        · have hne : (x != y) = false := by simp [hxy]
          have HD := hidep (HT.out.2 hxy)
          clear hxy
          go_upto_region 6 with (fail)
          go_quiet (fail)
          go_wp2
          go_roundw
          case rel => exact ⟨k + 1, by omega, by go_num, HD, hbw.trans ((zq6 (Below.refl _ _) _).mono hbw.size)⟩
          case measure => simp [intOf]; omega
        · have hne : (x != y) = true := by simp [hxy]
          have HD := hidep (show decide (a = b) = false from decide_eq_false (fun e => hxy (HXY.out e)))
          clear hxy
          go_upto_region 6 with (fail)
          go_quiet (fail)
          go_wp2
          go_ret
          exact ⟨zqb (congrArg Value.bool HD.out.symm), hbw.trans ((zq6 (Below.refl _ _) _).mono hbw.size)⟩
      · go_wp2
        go_ret
        have hkn : k = n := by omega
        have e1 := hg.out
        rw [List.take_of_length_le (by rw [hkn, HN.out]; omega), List.take_of_length_le (by rw [hkn, HN.out, HL.out]; omega)] at e1
        exact ⟨zqb (congrArg Value.bool (decide_eq_true e1).symm), hbw⟩
  · have HD := hidep (show decide (a = b) = false from decide_eq_false (fun e => hl (by rw [e])))
    have hne : ((a.length : Int) != (b.length : Int)) = true := by simp; omega
    have hne2 : ¬ (a.length : Int) = (b.length : Int) := by omega
    clear hv hu hl
    go_enter Tryz.func93, Tryz.ntmps93
    go_wp2
    go_ret
    exact ⟨zqb (congrArg Value.bool HD.out.symm), Below.refl _ _⟩
def begB (C c : List Int) : Bool := decide (C.take c.length = c)
theorem begB_len {C c : List Int} (h : begB C c = true) : c.length <= C.length := by
  unfold begB at h
  have := congrArg List.length (of_decide_eq_true h)
  rw [List.length_take] at this
  omega
set_option maxHeartbeats 400000 in
theorem zq9e (v u : Value) (C c : List Int) (w : World) (hv : BysAt w v C) (hu : BysAt w u c) :
    Calls Tryz.prog 53 #[v, u] w fun e w' => e = .returned (.bool (begB C c)) /\ Below w.heap.size w w' := by
  obtain ⟨va, vc, rfl, hvc, hvm⟩ := hv.1.form
  obtain ⟨ua, uc, rfl, huc, hum⟩ := hu.1.form
  unfold maxLen at hvm hum
  by_cases hl : c.length <= C.length
  · have hp := Rd.pre hv.1 hl
    rw [zqcc, Nat.mul_one] at hp
    have hp2 : BysAt w (.slice va c.length vc) (C.take c.length) := ⟨by rw [List.length_take, Nat.min_eq_left hl]; exact hp, fun x hx => hv.2 x (List.mem_of_mem_take hx)⟩
    have HE := hidep (equalBy_any _ _ _ _ w hp2 hu)
    have HB := hidep (show begB C c = decide (C.take c.length = c) from rfl)
    have hl1 : (c.length : Int) <= (C.length : Int) := by omega
    have hl2 : (c.length : Int) <= (vc : Int) := by omega
    clear hv hu hp hp2
    generalize c.length = n at *
    generalize C.length = m at *
    go_enter Tryz.func53, Tryz.ntmps53
    go_wp2_with (go_at_call 93; refine HE.out.mono ?_; rintro e w1 ⟨rfl, hb1⟩)
    go_ret
    exact ⟨zqb (congrArg Value.bool HB.out.symm), hb1⟩
  · have HB := hidep (show begB C c = false from decide_eq_false (fun e => hl (by have := congrArg List.length e; rw [List.length_take] at this; omega)))
    have hl1 : ¬ (c.length : Int) <= (C.length : Int) := by omega
    clear hv hu hl
    go_enter Tryz.func53, Tryz.ntmps53
    go_wp2
    go_ret
    exact ⟨zqb (congrArg Value.bool HB.out.symm), Below.refl _ _⟩
set_option maxHeartbeats 1000000 in
theorem growBy_any (n : Nat) (w : World) (hn : n <= 1099511627776) :
    Calls Tryz.prog 124 #[.slice none 0 0, .int .i64 n] w fun e w' => ∃ v, e = .returned v /\ w'.ownsRow w.heap.size 5 1 v 0 [] /\ Below w.heap.size w w' := by
  by_cases h0 : 0 < n
  · go_enter Tryz.func124, Tryz.ntmps124
    go_wp2_with (at_builtin; refine wpList_append_zeros _ rfl (.tmp 20) (.tmp 21) rfl slByt Tryz.underlying3 n rfl rfl h0 (by omega) (by omega) ?_; intro c w1 hc hown hb)
    go_ret
    exact ⟨_, rfl, hown, hb⟩
  · obtain rfl : n = 0 := by omega
    go_enter Tryz.func124, Tryz.ntmps124
    go_wp2
    go_ret
    exact ⟨_, rfl, World.ownsRow_nil _ _ _ _, Below.refl _ _⟩
def BysssAt (w : World) (v : Value) (l : List (List Int)) : Prop :=
  ∃ us : List Value, us.length = l.length /\ Rd w (fun _ => True) 1 v l.length us /\ ∀ i (h : i < l.length) (h' : i < us.length), BysAt w us[i] l[i]
theorem BysssAt.below {w w' : World} {v : Value} {l : List (List Int)} (h : BysssAt w v l) (hb : Below w.heap.size w w') : BysssAt w' v l := by
  obtain ⟨us, hl, hr, hs⟩ := h
  exact ⟨us, hl, hr.below hb, fun i a b => (hs i a b).below hb⟩
theorem BysssAt.form {w : World} {v : Value} {l : List (List Int)} (h : BysssAt w v l) : ∃ a cap, v = .slice a l.length cap /\ l.length <= cap /\ cap <= maxLen := by
  obtain ⟨_, _, hr, _⟩ := h
  exact hr.form
theorem BysssAt.at {w : World} {a : Option Addr} {c : Nat} {l : List (List Int)} (h : BysssAt w (.slice a l.length c) l) {k : Nat} (hk : k < l.length) :
    ∃ b off u, a = some ⟨b, off, none⟩ /\ b < w.heap.size /\ w.cell? ⟨b, off + k, none⟩ = some u /\ BysAt w u l[k] := by
  obtain ⟨us, hl, hr, hs⟩ := h
  obtain ⟨b, off, e, hb, hc⟩ := hr.at (by omega)
  exact ⟨b, off, us[k], e, hb, hc k _ (List.getElem?_eq_getElem (by omega)), hs k hk (by omega)⟩
def zq2b (l : List (List Int)) : Nat := l.flatten.length
theorem totalB_take_succ {l : List (List Int)} {k : Nat} (h : k < l.length) : zq2b (l.take (k + 1)) = zq2b (l.take k) + l[k].length /\ (l.take (k + 1)).flatten = (l.take k).flatten ++ l[k] := by
  unfold zq2b
  rw [List.take_succ_eq_append_getElem h, List.flatten_append, List.length_append]
  simp
theorem zq74 (l : List (List Int)) (k : Nat) : zq2b (l.take k) <= zq2b l := by
  unfold zq2b
  conv => rhs; rw [<- List.take_append_drop k l, List.flatten_append, List.length_append]
  omega
set_option maxHeartbeats 1000000 in
theorem zq25 (v : Value) (l : List (List Int)) (w : World) (h : BysssAt w v l) (hn : zq2b l <= 1099511627776) :
    Calls Tryz.prog 92 #[v] w fun e w' => ∃ u, e = .returned u /\ w'.ownsRow w.heap.size 5 1 u l.flatten.length (byC l.flatten) /\ Below w.heap.size w w' := by
  obtain ⟨a, cap, rfl, h2, h3⟩ := h.form
  unfold maxLen at h3
  go_enter Tryz.func92, Tryz.ntmps92
  go_wp2
  go_loop [3, 11] (fun s i => ∃ k : Nat, k <= l.length /\ i = .int .i64 k /\ s = .int .i64 (zq2b (l.take k) : Nat)) (fun _ i => l.length - (intOf i).toNat)
  case atStart => exact ⟨0, Nat.zero_le _, rfl, rfl⟩
  case round =>
    obtain ⟨k, hk, rfl, rfl⟩ := hrel
    have ht0 := zq74 l k
    by_cases hlt : k < l.length
    · obtain ⟨b, off, u, rfl, hb, hc, hu⟩ := h.at hlt
      have ht := (totalB_take_succ hlt).1
      have ht1 := zq74 l (k + 1)
      have HT := hidep ht
      have hle : zq2b (l.take k) + l[k].length <= zq2b l := by omega
      clear ht
      obtain ⟨a', cap', hv, hu2, hu3⟩ := hu.1.form
      clear hu h
      generalize l[k].length = m at *
      subst hv
      go_wp2
      go_round
      case rel => exact ⟨k + 1, by omega, by go_num, congrArg _ (by rw [HT.out]; omega)⟩
      case measure => simp [intOf]; omega
    · have hkl : k = l.length := by omega
      have HK := hidep hkl
      have htl : Hid (l.take k = l) := hidep (by rw [hkl, List.take_length])
      clear hkl
      rw [htl.out]
      generalize hN : zq2b l = N at *
      have HN := hidep hN
      clear hN ht0
      go_wp2_with (go_at_call 124; refine (growBy_any N _ (by omega)).mono ?_; rintro e w1 ⟨v1, rfl, hown1, hb1⟩)
      go_loopw [6, 27] (fun o i wr => ∃ k : Nat, k <= l.length /\ i = .int .i64 k /\ wr.ownsRow w.heap.size 5 1 o (l.take k).flatten.length (byC (l.take k).flatten) /\ Below w.heap.size w wr) (fun _ i _ => l.length - (intOf i).toNat)
      case atStart => exact ⟨0, Nat.zero_le _, rfl, hown1, hb1⟩
      case round =>
        obtain ⟨k, hk, rfl, hown, hbw⟩ := hrel
        by_cases hlt : k < l.length
        · obtain ⟨b, off, u, rfl, hb, hc, hu⟩ := (h.below hbw).at hlt
          have ht := (totalB_take_succ hlt)
          have ht1 := zq74 l (k + 1)
          have HT := hidep ht.2
          have hle : (l.take k).flatten.length + l[k].length <= N := by have := HN.out; have := ht.1; unfold zq2b at *; omega
          clear ht
          have hone := zq33 l[k]
          have hu1 := hu.1
          go_wp2_with (at_builtin; refine zq4 _ rfl (.tmp 31) (.tmp 32) rfl slByt w.heap.size _ _ _ rfl hown _ _ _ _ rfl hu1 hone (by unfold maxLen; omega) (by omega) hbw.size ?_; intro v2 w2 hown2 hgr2 _ _)
          go_roundw
          case rel => exact ⟨k + 1, by omega, by go_num, by rw [HT.out, zq60, List.length_append]; exact hown2, hbw.grown hgr2 hbw.size (fun g hg => (hown.lt g hg).1)⟩
          case measure => simp [intOf]; omega
        · have hkl : k = l.length := by omega
          have htl : Hid (l.take k = l) := hidep (by rw [hkl, List.take_length])
          clear hkl
          rw [htl.out] at hown
          go_wp2
          go_ret
          exact ⟨_, rfl, hown, hbw⟩
end Go.Proofs.YtcfjepcflanjbaaGreat
