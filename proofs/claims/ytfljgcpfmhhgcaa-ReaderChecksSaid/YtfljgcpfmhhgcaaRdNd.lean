/- Contract: the reference's Need: some indices of places out of a number. -/
import Derived.Test.YtfljgcpfmhhgcaaRdPc
namespace Go.Proofs.Ytfljgcpfmhhgcaa
open Go.RowKit Go.Lab
theorem range_map29 (f : Nat → Value) : (List.range 29).map f = [f 0, f 1, f 2, f 3, f 4, f 5, f 6, f 7, f 8, f 9, f 10, f 11, f 12, f 13, f 14, f 15, f 16, f 17, f 18, f 19, f 20, f 21, f 22, f 23, f 24, f 25, f 26, f 27, f 28] := rfl
theorem frame29 (t : Array Value) (ds : List Deferred) (h : t.size = 29) : ({ tmps := t, defers := ds } : Act) = { tmps := #[slot t 0, slot t 1, slot t 2, slot t 3, slot t 4, slot t 5, slot t 6, slot t 7, slot t 8, slot t 9, slot t 10, slot t 11, slot t 12, slot t 13, slot t 14, slot t 15, slot t 16, slot t 17, slot t 18, slot t 19, slot t 20, slot t 21, slot t 22, slot t 23, slot t 24, slot t 25, slot t 26, slot t 27, slot t 28], defers := ds } := by
  have e : t = ((List.range 29).map (slot t)).toArray := by
    apply Array.ext
    · simp [h]
    · intro i h1 h2
      simp [slot, Array.getD, h1]
  rw [range_map29] at e
  exact congrArg (fun x => ({ tmps := x, defers := ds } : Act)) e
/-- Rising indices below n, at most six. -/
def NeedIn (n : Nat) (need : List Int) : Prop := need.length ≤ 6 ∧ need.Pairwise (· < ·) ∧ ∀ x ∈ need, 0 ≤ x ∧ x < n
set_option maxRecDepth 100000 in
set_option maxHeartbeats 20000000 in
theorem need30_any (v : Value) (pl : List Pl) (bits : Int) (w : World) (hp : PlacesAt w v pl) (h16 : pl.length ≤ 16) (hb : -9223372036854775808 ≤ bits ∧ bits ≤ 9223372036854775807) :
    Calls Try.prog 16 #[v, .int .i64 bits] w fun e w' => ∃ (u : Value) (need : List Int), e = .returned u ∧ w'.ownsRow w.heap.size 3 1 u need.length (intsC need) ∧ NeedIn pl.length need ∧ Below w.heap.size w w' := by
  obtain ⟨a, c, rfl, hca, hma⟩ := hp.form
  unfold maxLen at hma
  clear hp
  have hr := aroundZ_rng bits 512 (by omega)
  have HAR := hidep (around_any bits 512 w hb.1 hb.2)
  obtain ⟨s, hs⟩ : ∃ s : Nat, aroundZ bits 512 = (s : Int) := ⟨(aroundZ bits 512).toNat, by omega⟩
  rw [hs] at HAR hr
  clear hs hb
  have HBIT := hidep (fun (k : Nat) (W : World) (h : k < 16) => bit_any s k W h)
  go_enter Try.func16, Try.ntmps16
  go_upto_region 4 with (first
    | (go_at_call 15; refine HAR.out.mono ?_; rintro e w1 ⟨rfl, rfl⟩)
    | fail)
  refine wp_loop (LoopI 29 (fun tm ds wr => (slot tm 0) = .slice a pl.length c ∧ (slot tm 6) = .int .i64 (s : Nat) ∧ ds = [] ∧ ∃ (i : Nat) (l : List Int) (v : Value), i ≤ pl.length ∧ (slot tm 7) = .int .i64 (i : Nat) ∧ (slot tm 5) = v ∧ Hid (l.Pairwise (· < ·) ∧ ∀ x ∈ l, 0 ≤ x ∧ x < (i : Int)) ∧ l.length ≤ 6 ∧ wr.ownsRow w.heap.size 3 1 v l.length (intsC l) ∧ Below w.heap.size w wr)) (fun a' wr => pl.length - (intOf (a'.tmps.getD 7 undef)).toNat) ?mainStart ?mainRound
  case' mainStart => refine LoopI.mk rfl ?_
  case' mainRound => (rintro ⟨t, ds⟩ wr ⟨hts, hrel⟩; dsimp only at hts hrel; rw [frame29 t ds hts])
  case mainStart => exact ⟨rfl, rfl, rfl, 0, [], _, Nat.zero_le _, rfl, rfl, hidep ⟨List.Pairwise.nil, fun _ h => by cases h⟩, by simp, World.ownsRow_nil _ _ _ _, Below.refl _ _⟩
  obtain ⟨h0, h6, hds, i, l, v, hi, h7, h5, HL, hl6, hown, hbw⟩ := hrel
  subst hds
  rw [h0, h6, h7, h5]
  clear h0 h6 h7 h5 hts
  obtain ⟨va, vc, rfl, hvc, hvm⟩ := (Rd.of_own hown).form
  unfold maxLen at hvm
  have hbs := hbw.size
  by_cases hlt : i < pl.length
  · have hi0 : (0 : Int) ≤ (i : Int) := by omega
    have hi1 : (i : Int) < (pl.length : Int) := by omega
    by_cases hl5 : l.length < 6
    · have hBK := HBIT.out i wr (by omega)
      cases hbk : s.testBit i with
      | true =>
        rw [hbk] at hBK
        have HNEW : Hid ((l ++ [(i : Int)]).Pairwise (· < ·) ∧ ∀ x ∈ l ++ [(i : Int)], 0 ≤ x ∧ x < ((i + 1 : Nat) : Int)) := hidep (by
          obtain ⟨h1, h2⟩ := HL.out
          refine ⟨List.pairwise_append.2 ⟨h1, List.pairwise_singleton _ _, fun x hx y hy => ?_⟩, fun x hx => ?_⟩
          · simp only [List.mem_singleton] at hy
            subst hy
            exact (h2 x hx).2
          · rcases List.mem_append.1 hx with h | h
            · have := h2 x h; omega
            · simp only [List.mem_singleton] at h; omega)
        have hfr := Rd.fresh wr #[.int .i64 (i : Nat)] 3 1 1 rfl (by decide)
        have HOW := hidep hown
        clear hbk hown
        generalize hll : l.length = m at *
        go_wp2_with (first
          | (go_at_call 36; refine hBK.mono ?_; rintro e w1 ⟨rfl, rfl⟩)
          | (at_builtin; refine wpList_append_rd _ rfl (.tmp 24) (.tmp 26) rfl slIntsR w.heap.size _ _ _ rfl (HOW.out.alloc _) _ _ _ _ rfl hfr (by intro u hu; simp at hu; rw [hu]; rfl) (by unfold maxLen; omega) (by omega) (by simp; omega) ?_; intro v2 w2 hown2 hgr2 hat2 hnl2; clear hat2 hnl2)
          | fail)
        have hb2 : Below w.heap.size w w2 := (hbw.alloc hbw.size _).grown hgr2 (by simp; omega) (fun g hg => (HOW.out.lt g hg).1)
        refine ⟨LoopI.mk rfl ⟨rfl, rfl, rfl, i + 1, l ++ [(i : Int)], _, by omega, by show Value.int _ _ = _; go_num, rfl, HNEW, by simp; omega, ?_, hb2⟩, ?_⟩
        · rw [intsC_snoc, List.length_append, hll]
          exact hown2
        · show pl.length - _ < pl.length - _
          simp [intOf]; omega
      | false =>
        rw [hbk] at hBK
        have HNEW : Hid (l.Pairwise (· < ·) ∧ ∀ x ∈ l, 0 ≤ x ∧ x < ((i + 1 : Nat) : Int)) := hidep ⟨HL.out.1, fun x hx => by have := HL.out.2 x hx; omega⟩
        have HOW := hidep hown
        clear hbk hown
        generalize hll : l.length = m at *
        go_wp2_with (first
          | (go_at_call 36; refine hBK.mono ?_; rintro e w1 ⟨rfl, rfl⟩)
          | fail)
        refine ⟨LoopI.mk rfl ⟨rfl, rfl, rfl, i + 1, l, _, by omega, by show Value.int _ _ = _; go_num, rfl, HNEW, by omega, by rw [hll]; exact HOW.out, hbw⟩, ?_⟩
        show pl.length - _ < pl.length - _
        simp [intOf]; omega
    · have HOW := hidep hown
      have hil := hi
      clear hown
      generalize hll : l.length = m at *
      have hm6 : ¬ (m : Int) < 6 := by omega
      go_wp2
      go_ret
      exact ⟨_, rfl, l, by rw [hll]; exact HOW.out, ⟨by omega, HL.out.1, fun x hx => by have := HL.out.2 x hx; omega⟩, hbw⟩
  · have HOW := hidep hown
    clear hown
    generalize hll : l.length = m at *
    go_wp2
    go_ret
    exact ⟨_, l, rfl, by rw [hll]; exact HOW.out, ⟨by omega, HL.out.1, fun x hx => by have := HL.out.2 x hx; omega⟩, hbw⟩
end Go.Proofs.Ytfljgcpfmhhgcaa
