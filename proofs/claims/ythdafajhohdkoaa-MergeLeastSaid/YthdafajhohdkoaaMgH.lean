/- Contracts: slices.Grow of nothing, slices.Concat of slices of edits. -/
import Derived.Test.YthdafajhohdkoaaLiftC
import Derived.Test.YthdafajhohdkoaaMgEw
namespace Go.Proofs.Ythdafajhohdkoaa
open Go.RowKit Go.Lab
/-- A slice of edits: its cells alone (each text's value is in one cell). -/
def EvRd (w : World) (v : Value) (l : List EV) : Prop := Rd w (· = 36) 3 v l.length (evC l) ∧ ∀ u ∈ evC l, u.oneCell' = true
theorem EvRd.below {w w' : World} {v : Value} {l : List EV} (h : EvRd w v l) (hb : Below w.heap.size w w') : EvRd w' v l := ⟨h.1.below hb, h.2⟩
theorem EvRd.form {w : World} {v : Value} {l : List EV} (h : EvRd w v l) : ∃ a cap, v = .slice a l.length cap ∧ l.length ≤ cap ∧ cap ≤ maxLen := h.1.form
set_option maxHeartbeats 1000000 in
theorem growE_any (n : Nat) (w : World) (hn : n ≤ 1099511627776) :
    Calls Try.prog 82 #[.slice none 0 0, .int .i64 n] w fun e w' => ∃ v, e = .returned v ∧ w'.ownsRow w.heap.size 36 3 v 0 [] ∧ Below w.heap.size w w' := by
  by_cases h0 : 0 < n
  · go_enter Try.func82, Try.ntmps82
    go_wp2_with (at_builtin; refine wpList_append_zeros _ rfl (.tmp 20) (.tmp 21) rfl slEdits Try.underlying3 n rfl rfl h0 (by omega) (by omega) ?_; intro c w1 hc hown hb)
    go_ret
    exact ⟨_, rfl, hown, hb⟩
  · obtain rfl : n = 0 := by omega
    go_enter Try.func82, Try.ntmps82
    go_wp2
    go_ret
    exact ⟨_, rfl, World.ownsRow_nil _ _ _ _, Below.refl _ _⟩
/-- A slice of texts. -/
def EvssAt (w : World) (v : Value) (l : List (List EV)) : Prop :=
  ∃ us : List Value, us.length = l.length ∧ Rd w (· = 25) 1 v l.length us ∧ ∀ i (h : i < l.length) (h' : i < us.length), EvRd w us[i] l[i]
theorem EvssAt.below {w w' : World} {v : Value} {l : List (List EV)} (h : EvssAt w v l) (hb : Below w.heap.size w w') : EvssAt w' v l := by
  obtain ⟨us, hl, hr, hs⟩ := h
  exact ⟨us, hl, hr.below hb, fun i a b => (hs i a b).below hb⟩
theorem EvssAt.form {w : World} {v : Value} {l : List (List EV)} (h : EvssAt w v l) : ∃ a cap, v = .slice a l.length cap ∧ l.length ≤ cap ∧ cap ≤ maxLen := by
  obtain ⟨_, _, hr, _⟩ := h
  exact hr.form
theorem EvssAt.at {w : World} {a : Option Addr} {c : Nat} {l : List (List EV)} (h : EvssAt w (.slice a l.length c) l) {k : Nat} (hk : k < l.length) :
    ∃ b off u, a = some ⟨b, off, none⟩ ∧ b < w.heap.size ∧ w.cell? ⟨b, off + k, none⟩ = some u ∧ EvRd w u l[k] := by
  obtain ⟨us, hl, hr, hs⟩ := h
  obtain ⟨b, off, e, hb, hc⟩ := hr.at (by omega)
  exact ⟨b, off, us[k], e, hb, hc k _ (List.getElem?_eq_getElem (by omega)), hs k hk (by omega)⟩
def totalE (l : List (List EV)) : Nat := l.flatten.length
theorem totalE_take_succ {l : List (List EV)} {k : Nat} (h : k < l.length) : totalE (l.take (k + 1)) = totalE (l.take k) + l[k].length ∧ (l.take (k + 1)).flatten = (l.take k).flatten ++ l[k] := by
  unfold totalE
  rw [List.take_succ_eq_append_getElem h, List.flatten_append, List.length_append]
  simp
theorem totalE_take_le (l : List (List EV)) (k : Nat) : totalE (l.take k) ≤ totalE l := by
  unfold totalE
  conv => rhs; rw [← List.take_append_drop k l, List.flatten_append, List.length_append]
  omega
set_option maxHeartbeats 1000000 in
theorem concatE_any (v : Value) (l : List (List EV)) (w : World) (h : EvssAt w v l) (hn : totalE l ≤ 1099511627776) :
    Calls Try.prog 72 #[v] w fun e w' => ∃ u, e = .returned u ∧ w'.ownsRow w.heap.size 36 3 u l.flatten.length (evC l.flatten) ∧ Below w.heap.size w w' := by
  obtain ⟨a, cap, rfl, h2, h3⟩ := h.form
  unfold maxLen at h3
  go_enter Try.func72, Try.ntmps72
  go_wp2
  go_loop [3, 11] (fun s i => ∃ k : Nat, k ≤ l.length ∧ i = .int .i64 k ∧ s = .int .i64 (totalE (l.take k) : Nat)) (fun _ i => l.length - (intOf i).toNat)
  case atStart => exact ⟨0, Nat.zero_le _, rfl, rfl⟩
  case round =>
    obtain ⟨k, hk, rfl, rfl⟩ := hrel
    have ht0 := totalE_take_le l k
    by_cases hlt : k < l.length
    · obtain ⟨b, off, u, rfl, hb, hc, hu⟩ := h.at hlt
      have ht := (totalE_take_succ hlt).1
      have ht1 := totalE_take_le l (k + 1)
      have HT := hidep ht
      have hle : totalE (l.take k) + l[k].length ≤ totalE l := by omega
      clear ht
      obtain ⟨a', cap', hv, hu2, hu3⟩ := hu.form
      clear hu h
      generalize l[k].length = m at *
      subst hv
      go_wp2
      go_round
      case rel => exact ⟨k + 1, by omega, by go_num, congrArg _ (by rw [HT.out]; omega)⟩
      case measure => simp [intOf]; omega
    · have hkl : k = l.length := by omega
      have HK := hidep hkl
      have htl : Hid (l.take k = l) := hidep (by rw [hkl, List.take_length])
      clear hkl
      rw [htl.out]
      generalize hN : totalE l = N at *
      have HN := hidep hN
      clear hN ht0
      go_wp2_with (go_at_call 82; refine (growE_any N _ (by omega)).mono ?_; rintro e w1 ⟨v1, rfl, hown1, hb1⟩)
      go_loopw [6, 27] (fun o i wr => ∃ k : Nat, k ≤ l.length ∧ i = .int .i64 k ∧ wr.ownsRow w.heap.size 36 3 o (l.take k).flatten.length (evC (l.take k).flatten) ∧ Below w.heap.size w wr) (fun _ i _ => l.length - (intOf i).toNat)
      case atStart => exact ⟨0, Nat.zero_le _, rfl, hown1, hb1⟩
      case round =>
        obtain ⟨k, hk, rfl, hown, hbw⟩ := hrel
        by_cases hlt : k < l.length
        · obtain ⟨b, off, u, rfl, hb, hc, hu⟩ := (h.below hbw).at hlt
          have ht := (totalE_take_succ hlt)
          have ht1 := totalE_take_le l (k + 1)
          have HT := hidep ht.2
          have hle : (l.take k).flatten.length + l[k].length ≤ N := by have := HN.out; have := ht.1; unfold totalE at *; omega
          clear ht
          obtain ⟨hu, hone⟩ := hu
          go_wp2_with (at_builtin; refine wpList_append_rd _ rfl (.tmp 31) (.tmp 32) rfl slEdits w.heap.size _ _ _ rfl hown _ _ _ _ rfl hu hone (by unfold maxLen; omega) (by omega) hbw.size ?_; intro v2 w2 hown2 hgr2 _ _)
          go_roundw
          case rel => exact ⟨k + 1, by omega, by go_num, by rw [HT.out, evC_append, List.length_append]; exact hown2, hbw.grown hgr2 hbw.size (fun g hg => (hown.lt g hg).1)⟩
          case measure => simp [intOf]; omega
        · have hkl : k = l.length := by omega
          have htl : Hid (l.take k = l) := hidep (by rw [hkl, List.take_length])
          clear hkl
          rw [htl.out] at hown
          go_wp2
          go_ret
          exact ⟨_, rfl, hown, hbw⟩
end Go.Proofs.Ythdafajhohdkoaa
