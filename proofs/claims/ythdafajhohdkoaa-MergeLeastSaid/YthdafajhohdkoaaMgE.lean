/- Contracts: slices.IndexFunc, slices.ContainsFunc over edits. -/
import Derived.Shelf.Abstract
import Derived.Test.YthdafajhohdkoaaMgEw
namespace Go.Proofs.Ythdafajhohdkoaa
open Go.RowKit Go.Lab Go.Shelf
set_option maxHeartbeats 1000000 in
theorem indexFuncE_any (w0 : World) (f : FuncId) (B : Nat) (p : Edit → Bool) (ev : List EV) (ef : ∀ args w, (callFunc f args).run Try.prog w = .ok (.enter f args) w) (hs : ∀ x ∈ ev, SymsAt w0 x.2 x.1.ins) (hT : Tests w0 f B p ev)
    (v : Value) (w : World) (hb : Below w0.heap.size w0 w) (hr : Rd w (· = 36) 3 v ev.length (evC ev)) :
    Calls Try.prog 77 #[v, .func (.func f) #[] #[.pointer (some ⟨B, 0, none⟩)]] w fun e w' => (∃ k : Int, e = .returned (.int .i64 k) ∧ ((k = -1 ∧ ∀ x ∈ ev, p x.1 = false) ∨ ∃ j : Nat, ∃ h : j < ev.length, k = j ∧ p ev[j].1 = true ∧ ∀ x ∈ ev.take j, p x.1 = false)) ∧ Below w.heap.size w w' := by
  obtain ⟨a, cap, rfl, h2, h3⟩ := hr.form
  unfold maxLen at h3
  go_enter Try.func77, Try.ntmps77
  go_wp2
  go_loopw [8] (fun i wr => ∃ k : Nat, k ≤ ev.length ∧ i = .int .i64 k ∧ Hid (∀ x ∈ ev.take k, p x.1 = false) ∧ Below w.heap.size w wr) (fun i _ => ev.length - (intOf i).toNat)
  case atStart => exact ⟨0, Nat.zero_le _, rfl, hidep (by simp), Below.refl _ _⟩
  case round =>
    obtain ⟨k, hk, rfl, hg, hbw⟩ := hrel
    by_cases hlt : k < ev.length
    · obtain ⟨b, off, rfl, hbb, hc0, hc1, hc2⟩ := rdEv_at (hr.below hbw) hlt
      have hm := List.getElem_mem hlt
      have hsy := hs _ hm
      have HT := hidep (fun W hW => hT W ev[k] hm hW)
      have HG : Hid (∀ x, ev[k] = x → (p x.1 = true → ∃ j : Nat, ∃ h : j < ev.length, (k : Int) = j ∧ p ev[j].1 = true ∧ ∀ x ∈ ev.take j, p x.1 = false) ∧ (p x.1 = false → ∀ x ∈ ev.take (k + 1), p x.1 = false)) := hidep (by
        rintro x rfl
        refine ⟨fun hp => ⟨k, hlt, rfl, hp, hg.out⟩, fun hp y hy => ?_⟩
        rw [List.take_succ_eq_append_getElem hlt] at hy
        rcases List.mem_append.1 hy with hy | hy
        · exact hg.out y hy
        · simp at hy; subst hy; exact hp)
      have HG' := hidep (HG.out _ rfl)
      clear hT hs hm hg hr HG
      generalize ev[k] = x at *
      obtain ⟨⟨ps, d, ins⟩, u⟩ := x
      unfold editV at HT
      simp only at hc0 hc1 hc2 hsy HT HG'
      obtain ⟨au, cu, rfl, _, _⟩ := hsy.form
      clear hsy
      cases hp : p ⟨ps, d, ins⟩
      · simp only [hp] at HT HG'
        clear hp
        go_wp2_with (go_at_fn f; refine (HT.out _ (hb.trans (hbw.mono hb.size))).mono ?_; rintro e w1 ⟨rfl, hb1⟩)
        go_roundw
        case rel => exact ⟨k + 1, by omega, by go_num, hidep (HG'.out.2 trivial), hbw.trans (hb1.mono hbw.size)⟩
        case measure => simp [intOf]; omega
      · simp only [hp] at HT HG'
        clear hp
        go_wp2_with (go_at_fn f; refine (HT.out _ (hb.trans (hbw.mono hb.size))).mono ?_; rintro e w1 ⟨rfl, hb1⟩)
        go_ret
        exact ⟨⟨_, rfl, .inr (HG'.out.1 trivial)⟩, hbw.trans (hb1.mono hbw.size)⟩
    · go_wp2
      go_ret
      have hkl : k = ev.length := by omega
      subst hkl
      have := hg.out
      rw [List.take_length] at this
      exact ⟨⟨_, rfl, .inl ⟨rfl, this⟩⟩, hbw⟩
set_option maxHeartbeats 1000000 in
theorem containsFuncE_any (w0 : World) (f : FuncId) (B : Nat) (p : Edit → Bool) (ev : List EV) (ef : ∀ args w, (callFunc f args).run Try.prog w = .ok (.enter f args) w) (hs : ∀ x ∈ ev, SymsAt w0 x.2 x.1.ins) (hT : Tests w0 f B p ev)
    (v : Value) (w : World) (hb : Below w0.heap.size w0 w) (hr : Rd w (· = 36) 3 v ev.length (evC ev)) :
    Calls Try.prog 63 #[v, .func (.func f) #[] #[.pointer (some ⟨B, 0, none⟩)]] w fun e w' => e = .returned (.bool (ev.any fun x => p x.1)) ∧ Below w.heap.size w w' := by
  have HI := hidep (indexFuncE_any w0 f B p ev ef hs hT v w hb hr)
  clear hs hT hb hr
  go_enter Try.func63, Try.ntmps63
  go_wp2_with fail
  refine HI.out.mono ?_
  rintro e w1 ⟨⟨k, rfl, hk⟩, hb⟩
  have HK : Hid ((decide (0 ≤ k)) = ev.any fun x => p x.1) := hidep (by
    rcases hk with ⟨rfl, hk⟩ | ⟨j, hj, rfl, hp, _⟩
    · symm
      rw [List.any_eq_false.2 (fun x hx => by simp [hk x hx])]
      rfl
    · rw [List.any_eq_true.2 ⟨_, List.getElem_mem hj, hp⟩]
      simp)
  clear hk
  go_wp2
  go_ret
  exact ⟨ret_val (congrArg Value.bool HK.out), hb⟩
end Go.Proofs.Ythdafajhohdkoaa
