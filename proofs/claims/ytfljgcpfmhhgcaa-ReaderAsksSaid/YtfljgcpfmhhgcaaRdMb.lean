/- The maker of examinations: Runs, Lines, Decimal, Arity, term, Expr, Sum: they hand back some value of the right form. -/
import Derived.Test.YtfljgcpfmhhgcaaRdMa
namespace Go.Proofs.Ytfljgcpfmhhgcaa
open Go.RowKit Go.Lab
attribute [local go_sem] Oper.semAt_some
set_option maxRecDepth 100000
theorem range_map30 (f : Nat → Value) : (List.range 30).map f = [f 0, f 1, f 2, f 3, f 4, f 5, f 6, f 7, f 8, f 9, f 10, f 11, f 12, f 13, f 14, f 15, f 16, f 17, f 18, f 19, f 20, f 21, f 22, f 23, f 24, f 25, f 26, f 27, f 28, f 29] := rfl
theorem frame30 (t : Array Value) (ds : List Deferred) (h : t.size = 30) : ({ tmps := t, defers := ds } : Act) = { tmps := #[slot t 0, slot t 1, slot t 2, slot t 3, slot t 4, slot t 5, slot t 6, slot t 7, slot t 8, slot t 9, slot t 10, slot t 11, slot t 12, slot t 13, slot t 14, slot t 15, slot t 16, slot t 17, slot t 18, slot t 19, slot t 20, slot t 21, slot t 22, slot t 23, slot t 24, slot t 25, slot t 26, slot t 27, slot t 28, slot t 29], defers := ds } := by
  have e : t = ((List.range 30).map (slot t)).toArray := by
    apply Array.ext
    · simp [h]
    · intro i h1 h2
      simp [slot, Array.getD, h1]
  rw [range_map30] at e
  exact congrArg (fun x => ({ tmps := x, defers := ds } : Act)) e
theorem range_map25 (f : Nat → Value) : (List.range 25).map f = [f 0, f 1, f 2, f 3, f 4, f 5, f 6, f 7, f 8, f 9, f 10, f 11, f 12, f 13, f 14, f 15, f 16, f 17, f 18, f 19, f 20, f 21, f 22, f 23, f 24] := rfl
theorem frame25 (t : Array Value) (ds : List Deferred) (h : t.size = 25) : ({ tmps := t, defers := ds } : Act) = { tmps := #[slot t 0, slot t 1, slot t 2, slot t 3, slot t 4, slot t 5, slot t 6, slot t 7, slot t 8, slot t 9, slot t 10, slot t 11, slot t 12, slot t 13, slot t 14, slot t 15, slot t 16, slot t 17, slot t 18, slot t 19, slot t 20, slot t 21, slot t 22, slot t 23, slot t 24], defers := ds } := by
  have e : t = ((List.range 25).map (slot t)).toArray := by
    apply Array.ext
    · simp [h]
    · intro i h1 h2
      simp [slot, Array.getD, h1]
  rw [range_map25] at e
  exact congrArg (fun x => ({ tmps := x, defers := ds } : Act)) e
theorem slRunR : SlT Try.prog 90 145 (.agg #[.int .i64 0, .string ⟨#[]⟩]) 2 24 := ⟨by kernel_rfl, by kernel_rfl, rfl, by decide⟩
theorem slStrR : SlT Try.prog 83 9 (.string ⟨#[]⟩) 1 16 := ⟨by kernel_rfl, by kernel_rfl, rfl, by decide⟩
theorem slExprR : SlT Try.prog 91 93 (.agg #[.int .i64 0, .int .i64 0, .slice none 0 0]) 3 40 := ⟨by kernel_rfl, by kernel_rfl, rfl, by decide⟩
/-- Some row of one's own, of n elements. -/
def Row (B : Nat) (X : World) (e : TypeId) (k : Nat) (v : Value) (n : Nat) : Prop := ∃ xs, X.ownsRow B e k v n xs
theorem Row.form {B : Nat} {X : World} {e : TypeId} {k n : Nat} {v : Value} (h : Row B X e k v n) : ∃ a c, v = .slice a n c ∧ n ≤ c ∧ c ≤ maxLen := by
  obtain ⟨xs, h⟩ := h
  exact (Rd.of_own h).form
/-- A loop of n rounds that makes a row. -/
def MkL (P : Nat) (la : Option Addr) (lc : Nat) (l : List Int) (w : World) (e : TypeId) (k n : Nat) (sv si : Value) (wr : World) : Prop :=
  ∃ i : Nat, i ≤ n ∧ si = .int .i64 (i : Nat) ∧ Row w.heap.size wr e k sv i ∧ MkR P la lc l w wr
set_option maxHeartbeats 4000000 in
theorem runs_any {P : Nat} {la : Option Addr} {lc : Nat} {l : List Int} (w : World) (h : Mk P la lc l w) :
    Calls Try.prog 68 #[.pointer (some ⟨P, 0, none⟩)] w fun e w' => (∃ (a : Option Addr) (n c : Nat), e = .returned (.slice a n c)) ∧ MkR P la lc l w w' := by
  have HM := hidep h
  have HT := hidep (fun n X (hX : MkR P la lc l w X) => takeM_any n X (hX.mk h))
  have HPH := hidep (fun X (hX : MkR P la lc l w X) => phrase_any X (hX.mk h))
  have hr0 := MkR.refl h
  clear h
  go_enter Try.func68, Try.ntmps68
  go_upto_region 3 with (first
    | (go_at_call 52; refine (HT.out _ _ hr0).mono ?_; rintro e w1 ⟨⟨z, rfl, hz0, hz1, _⟩, hr1⟩; have hz2 : z < 2 := hz1 (by decide); have hr01 := hr0.trans hr1)
    | fail)
  clear hr1 hz1
  refine wp_abs (fun X => MkR P la lc l w X) hr01 ?_
  intro X hrX
  clear hr01 hr0
  have hrY : ∀ o, MkR P la lc l w (X.alloc o) := fun o => hrX.alloc o
  go_upto_region 5 with (first
    | (go_at_call 52; refine (HT.out _ _ (hrY _)).mono ?_; rintro e w2 ⟨⟨y, rfl, hy0, hy1, _⟩, hr2⟩; obtain ⟨yn, rfl⟩ : ∃ yn : Nat, y = (yn : Int) := ⟨y.toNat, by omega⟩; have hy5 : (yn : Int) < 5 := hy1 (by decide); obtain ⟨v, hc, n, rfl, hn0, hn3⟩ := lit_get (p := fun v => ∃ n : Int, v = .int .i64 n ∧ 0 ≤ n ∧ n ≤ 3) (hr2.box (heap_alloc_new _ _) (by have := HM.out.lt; have := hrX.size; omega)) (by simp) (z := yn) (by simp; omega))
    | fail)
  obtain ⟨m, rfl⟩ : ∃ m : Nat, n = (m : Int) := ⟨n.toNat, by omega⟩
  have hr2 := (hrX.alloc _).trans hr2
  clear hc hy0 hy1 hy5 hrX hrY
  refine wp_loop (LoopI 30 (fun tm ds wr => (slot tm 0) = .pointer (some ⟨P, 0, none⟩) ∧ (slot tm 3) = .int .i64 z ∧ (slot tm 5) = .int .i64 (m : Nat) ∧ ds = [] ∧ MkL P la lc l w 145 2 m (slot tm 4) (slot tm 6) wr)) (fun a' wr => m - (intOf (a'.tmps.getD 6 undef)).toNat) ?mainStart ?mainRound
  case' mainStart => refine LoopI.mk rfl ?_
  case' mainRound => (rintro ⟨t, ds⟩ wr ⟨hts, hrel⟩; dsimp only at hts hrel; rw [frame30 t ds hts])
  case mainStart => exact ⟨rfl, rfl, rfl, rfl, 0, Nat.zero_le _, rfl, ⟨[], World.ownsRow_nil _ _ _ _⟩, hr2⟩
  clear hr2
  obtain ⟨h0, h3, h5, hds, i, hi, h6, hrow, hrw⟩ := hrel
  subst hds
  obtain ⟨ra, rc, hrv, _, _⟩ := hrow.form
  rw [hrv] at hrow
  rw [h0, h3, h5, h6, hrv]
  clear h0 h3 h5 h6 hrv hts
  obtain ⟨xs, hown⟩ := hrow
  by_cases hlt : i < m
  · have hi0 : (i : Int) < (m : Int) := by omega
    have hP := HM.out.lt
    have HOWN := hidep (fun Y (hY : MkR P la lc l wr Y) => hY.row hown (by omega))
    have HRW := hidep hrw
    have hsz := hrw.size
    clear hown
    go_wp2_with (first
      | (go_at_call 75; refine (HPH.out _ hrw).mono ?_; rintro e w3 ⟨⟨s, rfl⟩, hr3⟩; have hs3 := hr3.size; have hown3 := HOWN.out _ hr3; have hrow := HRW.out.trans hr3)
      | (at_builtin; refine wpList_append_rd _ rfl (.tmp 19) (.tmp 27) rfl slRunR w.heap.size _ _ _ rfl (hown3.alloc _) _ _ _ _ rfl (Rd.fresh w3 #[.int .i64 _, .string s] 145 2 1 rfl (by decide)) (by intro u hu; simp at hu; rcases hu with rfl | rfl <;> rfl) (by unfold maxLen; omega) (by omega) (by simp; omega) ?_; intro v2 w4 hown4 hgr4 hat4 hnl4; clear hat4 hnl4)
      | fail)
    have hend := (hrow.alloc _).own HM.out hgr4 (fun g hg => (hown3.lt g hg).1)
    refine ⟨LoopI.mk rfl ⟨rfl, rfl, rfl, rfl, i + 1, by omega, by show Value.int _ _ = _; go_num, ⟨_, hown4⟩, hend⟩, ?_⟩
    show m - _ < m - _
    simp [intOf]; omega
  · go_wp2
    go_ret
    exact ⟨⟨_, _, _, rfl⟩, hrw⟩
set_option maxHeartbeats 4000000 in
theorem lines_any {P : Nat} {la : Option Addr} {lc : Nat} {l : List Int} (w : World) (h : Mk P la lc l w) :
    Calls Try.prog 74 #[.pointer (some ⟨P, 0, none⟩)] w fun e w' => (∃ (a : Option Addr) (n c : Nat), e = .returned (.slice a n c)) ∧ MkR P la lc l w w' := by
  have HM := hidep h
  have HT := hidep (fun n X (hX : MkR P la lc l w X) => takeM_any n X (hX.mk h))
  have hr0 := MkR.refl h
  clear h
  go_enter Try.func74, Try.ntmps74
  go_upto_region 2 with (fail)
  refine wp_abs (fun X => Below w.heap.size w X ∧ ∃ cs t, X.heap[w.heap.size]? = some (.cells cs t) ∧ cs.size = 7 ∧ ∀ v ∈ cs.toList, ∃ s, v = .string s) ⟨(Below.refl _ _).alloc (Nat.le_refl _) _, _, _, heap_alloc_new _ _, rfl, by simp⟩ ?_
  rintro X ⟨hX, cs, t, hq, hcs, hall⟩
  have hrX := hr0.below hX
  obtain ⟨B, hB⟩ : ∃ B, B = w.heap.size := ⟨_, rfl⟩
  rw [← hB] at hq ⊢
  have hBP : B ≠ P := by have := HM.out.lt; omega
  have hsX := hX.size
  clear hr0 hX hB
  have HMX := hidep (hrX.mk HM.out)
  have HTX := hidep (fun n Y (hY : MkR P la lc l X Y) => takeM_any n Y (hY.mk HMX.out))
  have hrXX := MkR.refl HMX.out
  go_upto_region 5 with (first
    | (go_at_call 52; refine (HTX.out _ _ hrXX).mono ?_; rintro e w1 ⟨⟨z, rfl, hz0, hz1, _⟩, hr1⟩; have hz3 : z < 3 := hz1 (by decide))
    | fail)
  obtain ⟨m, hm⟩ : ∃ m : Nat, 1 + z = (m : Int) := ⟨(1 + z).toNat, by omega⟩
  have hm3 : m ≤ 3 := by omega
  rw [hm]
  have HRX := hidep hrX
  have hBX := lt_of_block hq
  clear hm hz0 hz1 hz3 hrXX hrX
  refine wp_loop (LoopI 25 (fun tm ds wr => (slot tm 0) = .pointer (some ⟨P, 0, none⟩) ∧ (slot tm 3) = .slice (some ⟨B, 0, none⟩) 7 7 ∧ (slot tm 5) = .int .i64 (m : Nat) ∧ ds = [] ∧ MkL P la lc l X 9 1 m (slot tm 4) (slot tm 6) wr)) (fun a' wr => m - (intOf (a'.tmps.getD 6 undef)).toNat) ?mainStart ?mainRound
  case' mainStart => refine LoopI.mk rfl ?_
  case' mainRound => (rintro ⟨t, ds⟩ wr ⟨hts, hrel⟩; dsimp only at hts hrel; rw [frame25 t ds hts])
  case mainStart => exact ⟨rfl, rfl, rfl, rfl, 0, Nat.zero_le _, rfl, ⟨[], World.ownsRow_nil _ _ _ _⟩, hr1⟩
  clear hr1
  obtain ⟨h0, h3, h5, hds, i, hi, h6, hrow, hrw⟩ := hrel
  subst hds
  obtain ⟨ra, rc, hrv, _, _⟩ := hrow.form
  rw [hrv] at hrow
  rw [h0, h3, h5, h6, hrv]
  clear h0 h3 h5 h6 hrv hts
  obtain ⟨xs, hown⟩ := hrow
  by_cases hlt : i < m
  · have hi0 : (i : Int) < (m : Int) := by omega
    have hP := HMX.out.lt
    have HOWN := hidep (fun Y (hY : MkR P la lc l wr Y) => hY.row hown (by omega))
    have HRW := hidep hrw
    have hsz := hrw.size
    clear hown
    go_wp2_with (first
      | (go_at_call 52; refine (HTX.out _ _ hrw).mono ?_; rintro e w3 ⟨⟨z, rfl, hz0, hz1, _⟩, hr3⟩; have hs3 := hr3.size; have hown3 := HOWN.out _ hr3; have hrow := HRW.out.trans hr3; obtain ⟨zn, rfl⟩ : ∃ zn : Nat, z = (zn : Int) := ⟨z.toNat, by omega⟩; have hz7 : (zn : Int) < 7 := hz1 (by decide); obtain ⟨v, hc, s, rfl⟩ := lit_get (hrow.box hq hBP) hall (z := zn) (by omega))
      | (at_builtin; refine wpList_append_rd _ rfl (.tmp 16) (.tmp 22) rfl slStrR X.heap.size _ _ _ rfl (hown3.alloc _) _ _ _ _ rfl (Rd.fresh w3 #[.string s] 9 1 1 rfl (by decide)) (by intro u hu; simp at hu; rw [hu]; rfl) (by unfold maxLen; omega) (by omega) (by simp; omega) ?_; intro v2 w4 hown4 hgr4 hat4 hnl4; clear hat4 hnl4)
      | fail)
    have hend := (hrow.alloc _).own HMX.out hgr4 (fun g hg => (hown3.lt g hg).1)
    refine ⟨LoopI.mk rfl ⟨rfl, rfl, rfl, rfl, i + 1, by omega, by show Value.int _ _ = _; go_num, ⟨_, hown4⟩, hend⟩, ?_⟩
    show m - _ < m - _
    simp [intOf]; omega
  · go_wp2
    go_ret
    exact ⟨⟨_, _, _, rfl⟩, HRX.out.trans hrw⟩
set_option maxHeartbeats 1000000 in
theorem arity_any (n : Int) (w : World) : Calls Try.prog 100 #[.int .i64 n] w fun e w' => (∃ k : Nat, e = .returned (.int .i64 (k : Nat)) ∧ k ≤ 2) ∧ w = w' := by
  have e0 : (n == 0) = decide (n = 0) := by simp [BEq.beq]
  go_enter Try.func100, Try.ntmps100
  go_wp2
  all_goals go_ret
  all_goals first
    | exact ⟨⟨0, rfl, by decide⟩, rfl⟩
    | exact ⟨⟨1, rfl, by decide⟩, rfl⟩
    | exact ⟨⟨2, rfl, by decide⟩, rfl⟩
end Go.Proofs.Ytfljgcpfmhhgcaa
