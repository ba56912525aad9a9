/- Contracts: slices.Clone of lists of pairs and of texts. -/
import Derived.Test.YthdafajhohdkoaaOwnE
namespace Go.Proofs.Ythdafajhohdkoaa
open Go.RowKit Go.Lab
set_option maxHeartbeats 1000000 in
theorem cloneP_any (l : List (Nat × Nat)) (v : Value) (w : World) (hl : PairsAt w v l) (hn : l.length ≤ 1099511627776) :
    Calls Try.prog 86 #[v] w fun e w' => ∃ v', e = .returned v' ∧ w'.ownsRow w.heap.size 45 2 v' l.length (pairsC l) ∧ Below w.heap.size w w' := by
  obtain ⟨a, c, rfl, h1, h2⟩ := hl.form
  unfold maxLen at h2
  have hq : ∀ (W : World) (a : Option Addr) (n c n' c' : Nat), (binOp .eql 42 (.slice a n c) (.slice none n' c')).run Try.prog W = .ok (.bool a.isNone) W := fun W a n c n' c' => Lib.run_eql_slice_nil W _ _ a n c n' c' slPair.und
  cases a with
  | none =>
    obtain ⟨_, a2, c2, he, _, _, h5, _⟩ := hl
    injection he with e1 _ e3
    subst e1 e3
    have hc0 := h5 rfl
    subst hc0
    obtain rfl : l = [] := List.eq_nil_of_length_eq_zero (by omega)
    go_enter Try.func86, Try.ntmps86
    go_wp2
    go_ret
    exact ⟨_, rfl, World.ownsRow_nil _ _ _ _, Below.refl _ _⟩
  | some ad =>
    have hone := pairsC_one l
    have hr := hl.below ((Below.refl _ _).alloc (Nat.le_refl _) (.cells #[] 45))
    have hx0 : Below w.heap.size w (w.alloc (.cells #[] 45)) := (Below.refl _ _).alloc (Nat.le_refl _) _
    have HX := hidep hx0
    clear hx0 hl
    go_enter Try.func86, Try.ntmps86
    go_wp2_with (at_builtin; refine wpList_append_rd _ rfl _ _ rfl slPair w.heap.size (.slice (some ⟨w.heap.size, 0, none⟩) 0 0) 0 [] rfl (World.ownsRow_made w #[] 0 (Nat.le_refl _) (Nat.zero_le _) rfl) _ _ _ _ rfl hr hone (by unfold maxLen; omega) (by omega) (by simp) ?_; intro v1 w1 hown hgr hat hnl; clear hat hnl; simp only [Nat.zero_add, List.nil_append] at hown)
    go_ret
    exact ⟨_, rfl, hown, HX.out.grown hgr (by simp) (by intro k hk; simp [Value.ownBlock] at hk; omega)⟩
set_option maxHeartbeats 1000000 in
theorem cloneSL_any (l : List Sym) (v : Value) (w : World) (hl : SymsAt w v l) (hn : l.length ≤ 1099511627776) :
    Calls Try.prog 44 #[v] w fun e w' => ∃ v', e = .returned v' ∧ SymsAt w' v' l ∧ Below w.heap.size w w' := by
  obtain ⟨a, c, rfl, h1, h2⟩ := hl.form
  unfold maxLen at h2
  have hq : ∀ (W : World) (a : Option Addr) (n c n' c' : Nat), (binOp .eql 23 (.slice a n c) (.slice none n' c')).run Try.prog W = .ok (.bool a.isNone) W := fun W a n c n' c' => Lib.run_eql_slice_nil W _ _ a n c n' c' slSyms.und
  cases a with
  | none =>
    obtain ⟨_, a2, c2, he, _, _, h5, _⟩ := hl
    injection he with e1 _ e3
    subst e1 e3
    have hc0 := h5 rfl
    subst hc0
    obtain rfl : l = [] := List.eq_nil_of_length_eq_zero (by omega)
    go_enter Try.func44, Try.ntmps44
    go_wp2
    go_ret
    exact ⟨_, rfl, SymsAt.nil _, Below.refl _ _⟩
  | some ad =>
    have hone := symsC_one l
    have hr := hl.below ((Below.refl _ _).alloc (Nat.le_refl _) (.cells #[] 34))
    have hx0 : Below w.heap.size w (w.alloc (.cells #[] 34)) := (Below.refl _ _).alloc (Nat.le_refl _) _
    have HX := hidep hx0
    clear hx0 hl
    go_enter Try.func44, Try.ntmps44
    go_wp2_with (at_builtin; refine wpList_append_rd _ rfl _ _ rfl slSyms w.heap.size (.slice (some ⟨w.heap.size, 0, none⟩) 0 0) 0 [] rfl (World.ownsRow_made w #[] 0 (Nat.le_refl _) (Nat.zero_le _) rfl) _ _ _ _ rfl hr hone (by unfold maxLen; omega) (by omega) (by simp) ?_; intro v1 w1 hown hgr hat hnl; clear hat hnl; simp only [Nat.zero_add, List.nil_append] at hown)
    go_ret
    exact ⟨_, rfl, SymsAt.of_own hown, HX.out.grown hgr (by simp) (by intro k hk; simp [Value.ownBlock] at hk; omega)⟩
end Go.Proofs.Ythdafajhohdkoaa
